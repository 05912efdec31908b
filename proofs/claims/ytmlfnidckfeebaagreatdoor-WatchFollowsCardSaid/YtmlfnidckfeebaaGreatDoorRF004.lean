/- Walks: a number that is read, and the reference's. Walks: a number that is written, the reference's. A range over a function that tells a list, and that writes a variable of its own meanwhile; the body goes through all of it. Walks: a strings.Builder within a coder.Writer. Walks: a number's bytes, told one by one, and put together. Walks: a coder.Writer's methods. -/
import Derived.Test.YtmlfnidckfeebaaGreatDoorShelf
import Derived.Deep.RegionWith
import Derived.RangeFuncNested
import Derived.RangeFuncBound
import Derived.RangeFuncCalls
import Derived.RangeFuncLeaves
import Derived.Lib.Builder
import Derived.Lib.AppendStr
import Derived.Laws.Externs
import Derived.OwnWalkIn
import Derived.TacticsInMore
import Derived.LoopNIn
import Derived.LoopIn
import Derived.Test.YtmlfnidckfeebaaGreatDoorRF003
namespace Go.Proofs.YtmlfnidckfeebaaGreatDoor
open Go.RowKit
theorem right_calls (n : Int) (w : World) : Calls Tryz.prog 246 #[.int .i64 n] w fun e w' => e = .returned (.bool (decide (0 ≤ n ∧ n ≤ 1073741824))) ∧ w = w' := by
  by_cases h0 : 0 ≤ n
  · have e1 : decide (0 ≤ n) = true := decide_eq_true h0
    have F := Lib.hid (show decide (0 ≤ n ∧ n ≤ 1073741824) = decide (n ≤ 1073741824) by rw [decide_eq_decide]; omega)
    clear h0
    go_enter Tryz.func246, Tryz.ntmps246
    go_wp2_with fail
    go_ret
    exact ⟨ret_bool F.out.symm, rfl⟩
  · have e1 : decide (0 ≤ n) = false := decide_eq_false h0
    have F := Lib.hid (show decide (0 ≤ n ∧ n ≤ 1073741824) = false by rw [decide_eq_false_iff_not]; omega)
    clear h0
    go_enter Tryz.func246, Tryz.ntmps246
    go_wp2_with fail
    go_ret
    exact ⟨ret_bool F.out.symm, rfl⟩
theorem conv_one (c : UInt8) (W : World) : (convert 172 9 (.slice (some ⟨W.heap.size, 0, none⟩) 1 1)).run Tryz.prog (W.alloc (.cells #[.int .u8 c.toNat] 5 (0, 0))) = .ok (.string (strOf [c])) (W.alloc (.cells #[.int .u8 c.toNat] 5 (0, 0))) :=
  conv_cells Tryz.underlying172 Tryz.underlying5 Tryz.underlying9 W.heap.size 0 1 [c] (fun i hi => by
    obtain rfl : i = 0 := by simpa using hi
    rw [cell_of_row _ W.heap.size 0 _ _ (0, 0) (heap_alloc_new W _)]; rfl)
theorem conv_one' (c : UInt8) (W : World) : (convert 172 9 (.slice (some ⟨W.heap.size, 0, none⟩) 1 1)).run Tryz.prog (W.alloc (.cells #[.int .u8 c.toNat] 5 (0, 0))).drew = .ok (.string (strOf [c])) (W.alloc (.cells #[.int .u8 c.toNat] 5 (0, 0))).drew :=
  conv_cells Tryz.underlying172 Tryz.underlying5 Tryz.underlying9 W.heap.size 0 1 [c] (fun i hi => by
    obtain rfl : i = 0 := by simpa using hi
    exact (cell_of_row (W.alloc _) W.heap.size 0 _ _ (0, 0) (heap_alloc_new W _)).trans rfl)
theorem conv_later (c : UInt8) (W W1 : World) (hb : Below (W.alloc (.cells #[.int .u8 c.toNat] 5 (0, 0))).drew.heap.size (W.alloc (.cells #[.int .u8 c.toNat] 5 (0, 0))).drew W1) :
    (convert 172 9 (.slice (some ⟨W.heap.size, 0, none⟩) 1 1)).run Tryz.prog W1 = .ok (.string (strOf [c])) W1 :=
  conv_cells Tryz.underlying172 Tryz.underlying5 Tryz.underlying9 W.heap.size 0 1 [c] (fun i hi => by
    obtain rfl : i = 0 := by simpa using hi
    exact cellKept (W := (W.alloc (.cells #[.int .u8 c.toNat] 5 (0, 0))).drew) ((cell_of_row (W.alloc (.cells #[.int .u8 c.toNat] 5 (0, 0))) W.heap.size 0 _ _ (0, 0) (heap_alloc_new W _)).trans (by simp [byteV])) hb)
set_option maxRecDepth 100000 in
set_option maxHeartbeats 2000000 in
theorem rput_small (n : Nat) (w : World) (h : n < 128) : Calls Tryz.prog 196 #[.int .i64 n] w fun e w' => e = .returned (.string (strOf (Sp.cput n))) ∧ Below w.heap.size w w' := by
  obtain ⟨c, hc⟩ : ∃ c : UInt8, c = UInt8.ofNat n := ⟨_, rfl⟩
  have F := Lib.hid (show strOf [c] = strOf (Sp.cput n) by rw [Sp.cput.eq_def n, if_pos h, hc])
  have t3 : IntKind.u8.wrap (n : Int) = (c.toNat : Int) := by rw [IntKind.wrap_u8, hc]; simp
  have e1 : decide ((n : Int) < 128) = true := by rw [decide_eq_true_iff]; omega
  have e2 : decide ((n : Int) < 0) = false := by simp
  have e3 : decide ((1073741824 : Int) < (n : Int)) = false := by rw [decide_eq_false_iff_not]; omega
  have cv0 := conv_one c
  clear hc h
  go_enter Tryz.func196, Tryz.ntmps196
  go_wp2_with fail
  go_ret
  exact ⟨by rw [← F.out]; rfl, (Below.refl _ _).alloc (Nat.le_refl _) _⟩
set_option maxRecDepth 100000 in
set_option maxHeartbeats 2000000 in
theorem rput_nat : ∀ (m n : Nat) (w : World), n ≤ m → n ≤ 1073741824 →
    Calls Tryz.prog 196 #[.int .i64 n] w fun e w' => e = .returned (.string (strOf (Sp.cput n))) ∧ Below w.heap.size w w' := by
  intro m
  induction m with
  | zero =>
    intro n w hn hb
    exact rput_small n w (by omega)
  | succ m ih =>
    intro n w hn hb
    by_cases h : n < 128
    · exact rput_small n w h
    · have e1 : decide ((n : Int) < 128) = false := by rw [decide_eq_false_iff_not]; omega
      obtain ⟨c, hc⟩ : ∃ c : UInt8, c = UInt8.ofNat (n % 128 + 128) := ⟨_, rfl⟩
      have F := Lib.hid (show strOf [c] ++ strOf (Sp.cput (n / 128)) = strOf (Sp.cput n) by rw [strOf_append, strOf_data, Sp.cput.eq_def n, if_neg h, hc]; rfl)
      have IH := Lib.hid (show ∀ W : World, Calls Tryz.prog 196 #[.int .i64 ((n : Int) / 128)] W fun e w' => e = .returned (.string (strOf (Sp.cput (n / 128)))) ∧ Below W.heap.size W w' by
        intro W; rw [show (n : Int) / 128 = ((n / 128 : Nat) : Int) by omega]; exact ih (n / 128) W (by omega) (by omega))
      have t1 : (n : Int).tmod 128 = (n : Int) % 128 := Int.tmod_eq_emod_of_nonneg (Int.natCast_nonneg _)
      have t2 : IntKind.i64.wrap ((n : Int) % 128 + 128) = (n : Int) % 128 + 128 := IntWalk.i64_in _ (by omega)
      have t3 : IntKind.u8.wrap ((n : Int) % 128 + 128) = (c.toNat : Int) := by rw [IntKind.wrap_u8, hc]; simp
      have t4 : IntKind.i64.wrap ((n : Int) / 128) = (n : Int) / 128 := IntWalk.i64_in _ (by omega)
      have t5 : (strOf [c]).size = 1 := strOf_size _
      have t6 : (strOf (Sp.cput (n / 128))).size ≤ 5 := by rw [strOf_size]; exact Sp.cput_len _ (by omega)
      have e2 : decide ((n : Int) < 0) = false := by simp
      have e3 : decide ((1073741824 : Int) < (n : Int)) = false := by rw [decide_eq_false_iff_not]; omega
      have cv0 := conv_one c
      have cv1 := conv_one' c
      clear hc
      go_enter Tryz.func196, Tryz.ntmps196
      go_wp2_with fail
      go_region_with (first
        | (go_at_call 196; refine (IH.out _).mono ?_; rintro e w1 ⟨rfl, hb1⟩; first | have cv2 := conv_later _ _ _ hb1 | skip))
      all_goals
        go_wp2_with fail
        go_ret
        refine ⟨by rw [← F.out]; rfl, ?_⟩
        first
        | exact hb1.alloc hb1.size _
        | exact (((Below.refl _ w).alloc (Nat.le_refl _) (.cells #[.int .u8 c.toNat] 5 (0, 0))).drew).trans (hb1.mono (by simp))
        | exact ((Below.refl _ w).drew.trans hb1).alloc hb1.size _
theorem rput_calls (n : Int) (w : World) : Calls Tryz.prog 196 #[.int .i64 n] w fun e w' => e = .returned (.string (strOf (Sp.put n))) ∧ Below w.heap.size w w' := by
  by_cases h : 0 ≤ n ∧ n ≤ 1073741824
  · have := rput_nat n.toNat n.toNat w (Nat.le_refl _) (by omega)
    rw [show ((n.toNat : Nat) : Int) = n by omega] at this
    rwa [show Sp.put n = Sp.cput n.toNat by unfold Sp.put; rw [if_pos h]]
  · have F := Lib.hid (show strOf (Sp.put n) = strOf [] by unfold Sp.put; rw [if_neg h])
    by_cases h0 : n < 0
    · have e1 : decide (n < 0) = true := decide_eq_true h0
      clear h h0
      go_enter Tryz.func196, Tryz.ntmps196
      go_wp2_with fail
      go_ret
      exact ⟨by rw [F.out]; rfl, Below.refl _ _⟩
    · have e1 : decide (n < 0) = false := decide_eq_false h0
      have e2 : decide (1073741824 < n) = true := decide_eq_true (by omega)
      clear h h0
      go_enter Tryz.func196, Tryz.ntmps196
      go_wp2_with fail
      go_ret
      exact ⟨by rw [F.out]; rfl, Below.refl _ _⟩
def SameAt (b : Nat) (W W' : World) : Prop := W'.heap[b]? = W.heap[b]?
theorem range_list {F : Fence} {n : Nat} {P : Program} {α : Type} {g : Operand} {ps : Array Tmp} {assign body : Code} {Q : Exit → Act → World → Prop} {a : Act} {w : World}
    (hro : F.round = none) (h1 : 1 ≤ n) {gf : Nat} {lb : Array Value} (hg : a.eval g = .func (.func gf) #[] lb) (hFg : F.fn gf) (eg : ∀ args w, (callFunc gf args).run P w = .ok (.enter gf args) w)
    (encs : α → Array Value) (xs : List α) (hps : ∀ x, (encs x).size = ps.size) (Bn : Nat) (hBn : Bn < w.heap.size)
    (hit : ∀ (l : Nat) (J : Nat → World → Prop) (W : World), Below w.heap.size w W → (∀ i W v, J i W → J i (W.setCell ⟨Bn, 0, none⟩ v)) → (∀ i W, J i W → J i W.drew) →
      (∀ i (hi : i < xs.length) (W1 : World), J i W1 → YieldAt F (n - 1 - 1) P l (encs xs[i]) W1 fun e W' => e = .returned (.bool true) ∧ J (i + 1) W' ∧ SameAt Bn W1 W') → J 0 W →
      CallsIn F (n - 1) P gf (#[.func (.yield l) #[] #[]] ++ lb) W fun e W' => (∃ v, e = .returned v) ∧ J xs.length W')
    (I : Nat → World → Prop) (hI : OwnFrom w.heap.size I) (hIc : ∀ i W v, I i W → I i (W.setCell ⟨Bn, 0, none⟩ v)) (hId : ∀ i W, I i W → I i W.drew) (h0 : I 0 w) (a₁ : α → Act)
    (hassign : ∀ (l : Nat) (x : α) (W : World) (K : Act → World → Prop), K (a₁ x) W →
      assign.wpIn (F.inRound l) (n - 1 - 1) P (Exit.then K (fun _ _ _ => False)) { tmps := (ps.zip (encs x)).foldl (fun t (p, v) => t.setIfInBounds p v) a.tmps, defers := [] } W)
    (hbody : ∀ (l i : Nat) (hi : i < xs.length) (W : World), I i W → body.wpIn (F.inRound l) (n - 1 - 1) P (fun e _ W' => e = .normal ∧ KeepsOthers W W' ∧ SameAt Bn W W' ∧ I (i + 1) W') (a₁ xs[i]) W)
    (hdone : ∀ (D : Nat) (W : World), w.heap.size ≤ D → I xs.length W → W.heap[D]? = some (.deferred (some [])) → Q .normal { a with defers := { target := .collected D, args := #[] } :: a.defers } W) :
    (Code.rangeFunc g ps assign body).wpIn F n P Q a w := by
  refine wpIn_rangeFunc fun fn hfn => ?_
  rw [hro]
  obtain ⟨rec, hrec⟩ : ∃ rec : LoopState → Option Code → Loop, rec = fun st pe => { state := st, pending := pe, fn, tmps := a.tmps, params := ps, assign, body, defers := w.heap.size } := ⟨_, rfl⟩
  obtain ⟨D, hD⟩ : ∃ D, D = w.heap.size := ⟨_, rfl⟩
  obtain ⟨L, hL⟩ : ∃ L, L = w.heap.size + 1 := ⟨_, rfl⟩
  obtain ⟨W1, hW1⟩ : ∃ W1, (w.alloc (.deferred (some []))).alloc (.loop (rec .ready none)) = W1 := ⟨_, rfl⟩
  have hs0 : (w.alloc (.deferred (some []))).heap.size = L := by rw [hL]; simp
  have hl1 : W1.heap[L]? = some (.loop (rec .ready none)) := by rw [← hW1, ← hs0]; exact World.alloc_heap_new _ _
  have hd1 : W1.heap[D]? = some (.deferred (some [])) := by
    rw [← hW1, hD]; exact (Below.heap_alloc _ _ _ (by simp)).trans (World.alloc_heap_new w _)
  have hi1 : I 0 W1 := by rw [← hW1]; exact hI.alloc _ (hI.alloc _ h0)
  have hb1 : Below w.heap.size w W1 := by rw [← hW1]; exact ((Below.refl _ w).alloc (Nat.le_refl _) _).alloc (by simp) _
  refine ⟨L, [{ target := .collected w.heap.size, args := #[] }], W1, { target := .fn (.func gf) lb, args := #[.func (.yield L) #[] #[]] }, W1, gf, #[.func (.yield L) #[] #[]] ++ lb, W1, ?_, ?_, ?_, ?_, fun _ => h1, ?_⟩
  · rw [← hW1, hrec, hL]; exact run_enterLoop_outer _ _ _ _ _
  · simp only [resolve, hg]
    simp [go_sem]
  · intro f' hf'; simp [Target.leads] at hf'; subst hf'; exact hFg
  · simp [invoke, go_sem, eg]
  · have farL : Bn ≠ L := by omega
    have farD : Bn ≠ D := by omega
    refine (hit L (fun i W => I i W ∧ W.heap[L]? = some (.loop (rec .ready none)) ∧ W.heap[D]? = some (.deferred (some []))) W1 hb1
      (fun i W v h => ⟨hIc i W v h.1, by rw [Below.heap_setCell _ _ _ _ (Ne.symm farL)]; exact h.2.1, by rw [Below.heap_setCell _ _ _ _ (Ne.symm farD)]; exact h.2.2⟩)
      (fun i W h => ⟨hId i W h.1, h.2.1, h.2.2⟩) ?_ ⟨hi1, hl1, hd1⟩).mono ?_
    · rintro i hi W ⟨hiW, hl, hd⟩
      have hlt : L < W.heap.size := (Array.getElem?_eq_some_iff.1 hl).1
      have hy := run_yield (P := P) (args := encs xs[i]) hl (by rw [hrec]; exact hps xs[i])
      rw [hrec] at hy
      refine ⟨fn, _, assign, body, hy, roundIn_of_wpIn hfn (hassign _ xs[i] W _ ⟨_, run_beginRound hl (by rw [hrec]), ?_⟩)⟩
      obtain ⟨busy, hbusy⟩ : ∃ busy : Loop, busy = { rec .ready none with state := .busy } := ⟨_, rfl⟩
      rw [← hbusy]
      have hl2 : (W.putObj L (.loop busy)).heap[L]? = some (.loop busy) := World.putObj_heap_same hlt
      have hd2 : (W.putObj L (.loop busy)).heap[D]? = some (.deferred (some [])) := (World.putObj_heap_other (by omega)).trans hd
      refine wpIn_mono (hbody _ i hi _ (hI.putObj _ hiW (by omega) hl rfl)) ?_
      rintro e a3 W3 ⟨rfl, hk3, hs3, hi3⟩
      have hl3 := hk3.same _ _ hl2 rfl
      have hd3 := hk3.same _ _ hd2 rfl
      have hr := run_endRound (P := P) (none : Option Code) hl3
      rw [hbusy, hrec] at hr
      refine ⟨_, _, hr, rfl, ⟨hI.putObj _ hi3 (by omega) hl3 rfl, ?_, (World.putObj_heap_other (by omega)).trans hd3⟩, ?_⟩
      · rw [hrec]; exact World.putObj_heap_same (Array.getElem?_eq_some_iff.1 hl3).1
      · exact (World.putObj_heap_other (by omega)).trans (hs3.trans (World.putObj_heap_other (by omega)))
    · rintro e W2 ⟨⟨v, rfl⟩, hi, hl, hd⟩
      refine ⟨none, _, by have := run_endLoop (P := P) hl (by rw [hrec]; simp); rw [hrec] at this; exact this, ?_⟩
      rw [← hD]
      exact hdone D _ (by omega) (hI.putObj _ hi (by omega) hl rfl) ((World.putObj_heap_other (by omega)).trans hd)
theorem info_of {t n : Nat} (h : (Tryz.prog.info? t).map (·.size) = some n) : ∃ j, Tryz.prog.info? t = some j ∧ j.size = n := Option.map_eq_some_iff.1 h
set_option maxRecDepth 100000 in
set_option maxHeartbeats 1000000 in
theorem cc_used (g : Nat) (w : World) (v e : Value) (h : isBlk w g 176 #[.pointer (some ⟨g, 0, none⟩), v, e]) :
    Calls Tryz.prog 280 #[.pointer (some ⟨g, 0, none⟩)] w fun e' w' => e' = .returned (.tuple #[]) ∧ w = w' := by
  obtain ⟨j, hj, _⟩ := info_of (t := 174) (n := 2) (by kernel_rfl)
  have c0 := (h.cell 0).trans rfl
  go_enter Tryz.func280, Tryz.ntmps280
  go_wp2_with fail
  rw [Lib.run_neq_ptr_same _ _ Tryz.underlying171 hj]
  go_wp2_with fail
  go_end0
  exact ⟨rfl, rfl⟩
set_option maxRecDepth 100000 in
set_option maxHeartbeats 1000000 in
theorem cc_fresh (g : Nat) (w : World) (v e : Value) (h : isBlk w g 176 #[.pointer none, v, e]) :
    Calls Tryz.prog 280 #[.pointer (some ⟨g, 0, none⟩)] w fun e' w' => e' = .returned (.tuple #[]) ∧ w' = w.setCell ⟨g, 0, none⟩ (.pointer (some ⟨g, 0, none⟩)) := by
  obtain ⟨j, hj, hjs⟩ := info_of (t := 174) (n := 2) (by kernel_rfl)
  have c0 := (h.cell 0).trans rfl
  have f0 := h.frozen 0
  have hsh : w.shape? g = some (176, 3) := h.shape
  go_enter Tryz.func280, Tryz.ntmps280
  go_wp2_with fail
  rw [Lib.run_to_unsafe w ⟨g, 0, none⟩ Tryz.underlying171 Tryz.underlying337 hj (by rw [hjs]; decide) hsh (Nat.zero_lt_succ 2)]
  simp only [Result.andThen]
  rw [Oper.upon_value]
  go_wp2_with fail
  rw [run_callFunc_extern Tryz.func304 (by kernel_rfl) (by kernel_rfl) (by kernel_rfl) (e := Extern.AbiNoEscape.same) (by kernel_rfl)]
  rw [Lib.run_noEscape]
  simp only [Result.andThen]
  rw [Oper.upon_value]
  go_wp2_with fail
  rw [Lib.run_from_unsafe w ⟨g, 0, none⟩ Tryz.underlying337 Tryz.underlying171 hj hsh (by kernel_rfl)]
  simp only [Result.andThen]
  rw [Oper.upon_value]
  go_wp2_with fail
  go_end0
  exact ⟨rfl, rfl⟩
def Kept (w w' : World) : Prop := ∀ k t cs, isBlk w k t cs → t ≠ 5 → t ≠ 176 → isBlk w' k t cs
theorem Kept.refl (w : World) : Kept w w := fun _ _ _ h _ _ => h
theorem Kept.trans {a b c : World} (h : Kept a b) (h' : Kept b c) : Kept a c := fun k t cs hk h1 h2 => h' k t cs (h k t cs hk h1 h2) h1 h2
theorem Kept.below {w w' : World} (h : Below w.heap.size w w') : Kept w w' := fun _ _ _ hk _ _ => hk.below h
theorem Kept.set {w : World} {g : Nat} {cs : Array Value} (h : isBlk w g 176 cs) (i : Nat) (u : Value) : Kept w (w.setCell ⟨g, i, none⟩ u) := fun k t cs' hk _ h2 => by
  have hne : k ≠ g := by
    rintro rfl
    rw [isBlk, show w.heap[k]? = _ from h] at hk
    injection hk with hk
    injection hk with _ h5
    exact h2 h5.symm
  exact hk.far hne u
theorem Kept.grown {w w' : World} {B n : Nat} {v : Value} {xs : List Value} (h : w.ownsRow B 5 1 v n xs) (hg : w.grownBy w' v.ownBlock) : Kept w w' := fun k t cs hk h1 _ => by
  refine (hg.block k hk.lt (fun e => ?_)).trans hk
  rcases h.2 with ⟨hn, _⟩ | ⟨g', cap', cur, hv, _, hgg, _⟩
  · rw [hn] at e; cases e
  · rw [hv] at e
    have e3 : k = g' := by simpa [Value.ownBlock] using e
    rw [← e3, show w.heap[k]? = _ from hk] at hgg
    injection hgg with hgg
    injection hgg with _ h5
    exact h1 h5
def IsW (B g : Nat) (l : List UInt8) (e : Int) (w : World) : Prop :=
  B ≤ g ∧ ∃ p v, (p = .pointer none ∨ p = .pointer (some ⟨g, 0, none⟩)) ∧ isBlk w g 176 #[p, v, .int .i64 e] ∧ w.ownsRow B 5 1 v l.length (l.map byteV) ∧ v.ownBlock ≠ some g
theorem own_far {w : World} {base g j n : Nat} {e : TypeId} {size : Nat} {v : Value} {xs : List Value} (h : w.ownsRow base e size v n xs) (hne : v.ownBlock ≠ some g) (u : Value) : (w.setCell ⟨g, j, none⟩ u).ownsRow base e size v n xs := by
  refine ⟨h.1, ?_⟩
  rcases h.2 with hn | ⟨g', cap', cur, hv, hbg, hgg, rest⟩
  · exact .inl hn
  · refine .inr ⟨g', cap', cur, hv, hbg, ?_, rest⟩
    rw [Below.heap_setCell _ _ _ _ (fun e => hne (by rw [hv]; simp [Value.ownBlock] at *; exact e))]; exact hgg
theorem cc_calls (B g : Nat) (p v e : Value) (xs : List Value) (n : Nat) (w : World) (hB : B ≤ g) (hp : p = .pointer none ∨ p = .pointer (some ⟨g, 0, none⟩)) (hb : isBlk w g 176 #[p, v, e]) (hown : w.ownsRow B 5 1 v n xs) (hne : v.ownBlock ≠ some g) :
    Calls Tryz.prog 280 #[.pointer (some ⟨g, 0, none⟩)] w fun e' w' => e' = .returned (.tuple #[]) ∧ isBlk w' g 176 #[.pointer (some ⟨g, 0, none⟩), v, e] ∧ w'.ownsRow B 5 1 v n xs ∧ Below B w w' ∧ w'.heap.size = w.heap.size ∧ Kept w w' := by
  rcases hp with rfl | rfl
  · refine (cc_fresh g w v e hb).mono ?_
    rintro e' w' ⟨rfl, rfl⟩
    exact ⟨rfl, hb.put 0 _ rfl, own_far hown hne _, (Below.refl _ _).setCell hB _, by simp, Kept.set hb 0 _⟩
  · refine (cc_used g w v e hb).mono ?_
    rintro e' w' ⟨rfl, rfl⟩
    exact ⟨rfl, hb, hown, Below.refl _ _, rfl, Kept.refl _⟩
theorem own_slice {w : World} {base n : Nat} {e : TypeId} {size : Nat} {v : Value} {xs : List Value} (h : w.ownsRow base e size v n xs) : ∃ x m k, v = .slice x m k := by
  rcases h.2 with ⟨hn, _⟩ | ⟨g', cap', cur, hv, _⟩
  · exact ⟨none, 0, 0, hn⟩
  · exact ⟨_, _, _, hv⟩
theorem strCells_eq (s : ByteArray) : Lib.strCells s = s.data.toList.map byteV := by
  unfold Lib.strCells; rfl
set_option maxRecDepth 100000 in
set_option maxHeartbeats 1000000 in
theorem ws_calls (B g : Nat) (l : List UInt8) (e : Int) (s : ByteArray) (w : World) (h : IsW B g l e w) (hlen : l.length + s.size ≤ 140737488355328) (hBw : B ≤ w.heap.size) :
    Calls Tryz.prog 248 #[.pointer (some ⟨g, 0, none⟩), .string s] w fun e' w' => e' = .returned (.tuple #[.int .i64 s.size, .nilIface]) ∧ IsW B g (l ++ s.data.toList) e w' ∧ Below B w w' ∧ Kept w w' := by
  obtain ⟨hB, p, v, hp, hblk, hown, hne⟩ := h
  obtain ⟨i0, hi, hz0, hz1, hz2⟩ := info_parts (show (Tryz.prog.info? 5).map (fun i => (i.zero, i.size, i.bytes)) = some (some (.int .u8 0), 1, 1) by kernel_rfl)
  have C := Lib.hid (cc_calls B g p v (.int .i64 e) _ _ w hB hp hblk hown hne)
  have HL := Lib.hid hblk.lt
  clear hp hblk hown
  go_enter Tryz.func248, Tryz.ntmps248
  go_wp2_with (first
    | (go_at_call 280; refine C.out.mono ?_; rintro e' w1 ⟨rfl, hb1, hown1, hbl1, hsz1, hk1⟩; have c0 := (hb1.cell 0).trans rfl; have c1 := (hb1.cell 1).trans rfl)
    | (refine Lib.wpList_append_own_string _ rfl _ _ 172 9 rfl B 5 i0 Tryz.underlying172 Tryz.underlying9 hi hz0 hz1 hz2 _ _ _ rfl hown1 s rfl ?c3 ?c4 ?c5 ?_))
  case c3 => unfold maxLen; omega
  case c4 => exact hlen
  case c5 => have := hbl1.size; omega
  intro v' w2 hown' hgrow _
  have hb2 : isBlk w2 g 176 #[.pointer (some ⟨g, 0, none⟩), v, .int .i64 e] := (hgrow.block g hb1.lt (fun e => hne e.symm)).trans hb1
  have hbl2 : Below B w w2 := hbl1.grown hgrow (Nat.le_trans hBw hbl1.size) (fun k e => hown1.lt k e |>.1)
  obtain ⟨x2, m2, k2, rfl⟩ : ∃ x m k, v' = .slice x m k := own_slice hown'
  have d1 := (hb2.cell 1).trans rfl
  have g1 := hb2.frozen 1
  clear c0 c1
  go_wp2_with fail
  go_ret2
  have HNE : (Value.slice x2 m2 k2).ownBlock ≠ some g := by
    intro e2
    rcases hown'.2 with ⟨hn, _⟩ | ⟨g', cap', cur, hv, _, hgg, _⟩
    · rw [hn] at e2; cases e2
    · rw [hv] at e2
      have e3 : g' = g := by simpa [Value.ownBlock] using e2
      rw [e3, show w2.heap[g]? = _ from hb2] at hgg
      injection hgg with hgg
      injection hgg with _ h5
      exact absurd h5 (by decide)
  refine ⟨rfl, ⟨hB, _, _, .inr rfl, hb2.put 1 _ rfl, ?_, HNE⟩, hbl2.setCell hB _, (hk1.trans (Kept.grown hown1 hgrow)).trans (Kept.set hb2 1 _)⟩
  rw [List.length_append, List.map_append, ← strCells_eq, show s.data.toList.length = s.size by simp]
  exact own_far hown' HNE _
end Go.Proofs.YtmlfnidckfeebaaGreatDoor
namespace Go.Proofs.YtmlfnidckfeebaaGreatDoor
open Go.RowKit Go.Shelf
theorem SameAt.blk {b : Nat} {t : TypeId} {cs : Array Value} {W W' : World} (h : SameAt b W W') (hb : isBlk W b t cs) : isBlk W' b t cs := h.trans hb
theorem or128_u8 : ∀ k : Fin 128, bits .or .u8 ((k.val : Nat) : Int) 128 = ((k.val + 128 : Nat) : Int) := by decide +kernel
def numAt (w : World) (b : Nat) : Nat := match w.cell? ⟨b, 0, none⟩ with
  | some (.int _ x) => x.toNat
  | _ => 0
theorem numAt_of {w : World} {b t : Nat} {x : Int} (h : isBlk w b t #[.int .i64 x]) : numAt w b = x.toNat := by
  unfold numAt; rw [h.cell 0]; rfl
section
attribute [local go_sem] Oper.semAt_some
set_option maxRecDepth 100000 in
set_option maxHeartbeats 2000000 in
theorem groups_in (F : Fence) (n : Nat) (h98 : F.fn 279) (hro : F.round = none) (hn : 1 ≤ n) (l Bn m0 : Nat) (hm0 : m0 ≤ 1073741824) (J : Nat → World → Prop)
    (hJ : ∀ i W v, J i W → J i (W.setCell ⟨Bn, 0, none⟩ v))
    (hY : ∀ i (hi : i < (Sp.cput m0).length) (W1 : World), J i W1 → YieldAt F (n - 1) Tryz.prog l #[.int .u8 ((Sp.cput m0)[i]).toNat] W1 fun e W' => e = .returned (.bool true) ∧ J (i + 1) W' ∧ SameAt Bn W1 W')
    (W : World) (hb : isBlk W Bn 3 #[.int .i64 m0]) (h0 : J 0 W) :
    CallsIn F n Tryz.prog 279 #[.func (.yield l) #[] #[], .pointer (some ⟨Bn, 0, none⟩)] W fun e W' => (∃ v, e = .returned v) ∧ J (Sp.cput m0).length W' := by
  refine callsIn_of_wp Tryz.func279 rfl h98 ?_ hro
  simp only [Tryz.ntmps279, List.size_toArray, List.length_cons, List.length_nil, Nat.reduceAdd, Nat.reduceSub, Array.replicate_succ, Array.replicate_zero, List.push_toArray, List.append_toArray, List.nil_append, List.cons_append]
  gi_wp2
  gi_loopw [3] (fun _ wr => ∃ i m : Nat, m ≤ 1073741824 ∧ isBlk wr Bn 3 #[.int .i64 m] ∧ (Sp.cput m0).drop i = Sp.cput m ∧ J i wr)
    (fun _ wr => numAt wr Bn)
  case atStart => exact ⟨0, m0, hm0, hb, by simp, h0⟩
  case round =>
    obtain ⟨i, m, hm, hbm, hd, hJi⟩ := hrel
    have c0 := (hbm.cell 0).trans rfl
    have f0 := hbm.frozen 0
    have hi : i < (Sp.cput m0).length := by
      rcases Nat.lt_or_ge i (Sp.cput m0).length with h | h
      · exact h
      · rw [List.drop_eq_nil_of_le h] at hd
        exact absurd hd.symm (Sp.cput_ne m)
    obtain ⟨fn, tmps, assign, body, hy, hR⟩ := hY i hi wr hJi
    rw [List.drop_eq_getElem_cons hi] at hd
    by_cases hlt : m < 128
    · rw [Sp.cput.eq_def m, if_pos hlt] at hd
      injection hd with hd1 hd2
      have hl : i + 1 = (Sp.cput m0).length := by have := congrArg List.length hd2; simp at this; omega
      have e1 : decide ((128 : Int) ≤ (m : Int)) = false := by rw [decide_eq_false_iff_not]; omega
      have t3 : IntKind.u8.wrap (m : Int) = ((Sp.cput m0)[i].toNat : Int) := by rw [IntKind.wrap_u8, hd1]; simp
      have L := Lib.hid hl
      clear hd1 hd2 hlt hl
      gi_wp2
      refine hR.mono ?_
      rintro e W' ⟨rfl, hJ', hs⟩
      gi_wp2
      go_end0
      exact ⟨⟨_, rfl⟩, by rw [← L.out]; exact hJ'⟩
    · rw [Sp.cput.eq_def m, if_neg hlt] at hd
      injection hd with hd1 hd2
      have e1 : decide ((128 : Int) ≤ (m : Int)) = true := by rw [decide_eq_true_iff]; omega
      obtain ⟨c, hc⟩ : ∃ c, c = (Sp.cput m0)[i] := ⟨_, rfl⟩
      rw [← hc] at hd1 hy
      have t1 : (m : Int).tmod 128 = (m : Int) % 128 := Int.tmod_eq_emod_of_nonneg (Int.natCast_nonneg _)
      have t2 : IntKind.i64.wrap ((m : Int) % 128) = (m : Int) % 128 := IntWalk.i64_in _ (by omega)
      have t3 : IntKind.u8.wrap ((m : Int) % 128) = (m : Int) % 128 := by rw [IntKind.wrap_u8]; omega
      have t4 : bits .or .u8 ((m : Int) % 128) 128 = (c.toNat : Int) := by
        rw [show (m : Int) % 128 = ((m % 128 : Nat) : Int) by omega, or128_u8 ⟨m % 128, Nat.mod_lt _ (by decide)⟩, hd1]; simp; omega
      have t5 : IntKind.i64.wrap ((m : Int) / 128) = (m : Int) / 128 := IntWalk.i64_in _ (by omega)
      have D := Lib.hid hd2
      clear hd1 hd2 hc
      gi_wp2
      refine hR.mono ?_
      rintro e W' ⟨rfl, hJ', hs⟩
      have hb' := hs.blk hbm
      have c1 := (hb'.cell 0).trans rfl
      have f1 := hb'.frozen 0
      clear c0 f0 t1 t2 t3 t4 hy hR
      gi_wp2
      go_roundw
      case rel => exact ⟨i + 1, m / 128, by omega, by rw [show ((m / 128 : Nat) : Int) = (m : Int) / 128 by omega]; exact hb'.put 0 _ rfl, D.out, hJ _ _ _ hJ'⟩
      case measure => rw [numAt_of hbm, numAt_of (hb'.put 0 _ rfl)]; omega
theorem groups_calls (n : Int) (w : World) : Calls Tryz.prog 247 #[.int .i64 n] w fun e w' => e = .returned (.func (.func 279) #[] #[.pointer (some ⟨w.heap.size, 0, none⟩)]) ∧ w' = w.alloc (.cells #[.int .i64 n] 3) := by
  go_enter Tryz.func247, Tryz.ntmps247
  go_wp2_with fail
  go_ret
  exact ⟨rfl, rfl⟩
theorem app_newIn {F : Fence} {n : Nat} {P : Program} {ops : Array Oper} {rest : List Oper} {o : Oper} {a : Act} {Q : Exit → Act → World → Prop} {w : World} {t e : TypeId} {size bytes : Nat} (hst : AppStat P t e size bytes) (hgd : o.guard = none) (s x : Operand) (ho : o.op = .call { callee := .builtin .append, args := #[s, x], argTypes := #[t, t] })
    (base : Nat) (v : Value) (k : Nat) (xs : List Value) (hs : a.eval s = v) (hown : w.ownsRow base e size v k xs) (cs : Array Value) (ty : TypeId) (m : Nat)
    (hx : a.eval x = .slice (some ⟨w.heap.size, 0, none⟩) m m) (hl : cs.size = m * size) (h1 : ∀ u ∈ cs.toList, u.oneCell' = true) (hm : 0 < m) (hcap : (k + m) * bytes ≤ 140737488355328) (hbase : base ≤ w.heap.size)
    (h : ∀ g cap w', w'.ownsRow base e size (.slice (some ⟨g, 0, none⟩) (k + m) cap) (k + m) (xs ++ cs.toList) → (w.alloc (.cells cs ty)).grownBy w' v.ownBlock → base ≤ g → wpListIn F n P ops Q rest (a.put o.dst (.slice (some ⟨g, 0, none⟩) (k + m) cap)) w') :
    wpListIn F n P ops Q (o :: rest) a (w.alloc (.cells cs ty)) := by
  obtain ⟨ht, hz0, hb0, i, z, hi, hz, hsz, hby, hzs⟩ := hst
  have hmax : k + m ≤ maxLen := by
    have : k + m ≤ (k + m) * bytes := Nat.le_mul_of_pos_right _ hb0
    unfold maxLen; omega
  refine wpListIn_append_own _ hgd s x t ho base e i z size bytes ht hi hz hsz hby hzs hz0 v k xs hs (hown.alloc _) ⟨w.heap.size, 0, none⟩ m m cs.toList hx (by simpa using hl) ?_ h1 hmax hcap (by simp; omega) ?_
  · intro j u hj
    rw [show (⟨w.heap.size, 0, none⟩ : Addr).add j = ⟨w.heap.size, 0 + j, none⟩ from by simp [Addr.add]; omega, cell_of_row _ w.heap.size (0 + j) cs ty (0, 0) (heap_alloc_new w _)]
    simpa using hj
  · intro v' w' hown' hg _
    obtain ⟨g, cap, rfl, hgb⟩ := owned_form hown' (by omega)
    exact h g cap w' hown' hg hgb
def Collected (w : World) (Bo Bn : Nat) (l : List UInt8) (i : Nat) (W : World) : Prop :=
  (∃ v, Boxed W Bo 172 v ∧ W.ownsRow w.heap.size 5 1 v i ((l.take i).map byteV)) ∧ (∃ x, Boxed W Bn 3 x) ∧ Below w.heap.size w W
set_option maxRecDepth 100000 in
set_option maxHeartbeats 2000000 in
theorem put_in (m0 : Nat) (hm0 : m0 ≤ 1073741824) (w : World) :
    CallsIn Fence.wide 3 Tryz.prog 186 #[.int .i64 m0] w fun e w' => e = .returned (.string (strOf (Sp.cput m0))) ∧ Below w.heap.size w w' := by
  obtain ⟨i0, hif, hz0, hz1, hz2⟩ := info_parts (show (Tryz.prog.info? 5).map (fun i => (i.zero, i.size, i.bytes)) = some (some (.int .u8 0), 1, 1) by kernel_rfl)
  have R := Lib.hid (right_calls (m0 : Int) w)
  rw [show decide ((0 : Int) ≤ (m0 : Int) ∧ (m0 : Int) ≤ 1073741824) = true by rw [decide_eq_true_iff]; omega] at R
  have hlen := Sp.cput_len m0 (by omega)
  refine callsIn_of_wp_marks Tryz.func186 rfl trivial ?_ rfl
  simp only [Tryz.ntmps186, List.size_toArray, List.length_cons, List.length_nil, Nat.reduceAdd, Nat.reduceSub, Array.replicate_succ, Array.replicate_zero, List.push_toArray, List.append_toArray, List.nil_append, List.cons_append]
  gi_wp2_with (first
    | (refine ⟨trivial, ?_⟩; gi_at_call 246; refine (callsIn_wide.2 R.out).mono ?_; rintro e w1 ⟨rfl, rfl⟩)
    | (refine ⟨trivial, ?_⟩; gi_at_call 247; refine (callsIn_wide.2 (groups_calls _ _)).mono ?_; rintro e w1 ⟨rfl, rfl⟩))
  have hO : Boxed ((w.alloc (.cells #[.slice none 0 0] 172)).alloc (.cells #[.int .i64 m0] 3)) w.heap.size 172 (.slice none 0 0) := (Boxed.new w _ _).alloc _
  have hN : Boxed ((w.alloc (.cells #[.slice none 0 0] 172)).alloc (.cells #[.int .i64 m0] 3)) (w.heap.size + 1) 3 (.int .i64 m0) := by
    have h := Boxed.new (w.alloc (.cells #[.slice none 0 0] 172)) 3 (.int .i64 (m0 : Int))
    rwa [World.size_alloc] at h
  have hB : Below w.heap.size w ((w.alloc (.cells #[.slice none 0 0] 172)).alloc (.cells #[.int .i64 m0] 3)) := ((Below.refl _ w).alloc (Nat.le_refl _) _).alloc (by simp) _
  have hS : ((w.alloc (.cells #[.slice none 0 0] 172)).alloc (.cells #[.int .i64 m0] 3)).heap.size = w.heap.size + 2 := by simp
  obtain ⟨W0, hW0⟩ : ∃ W0, ((w.alloc (.cells #[.slice none 0 0] 172)).alloc (.cells #[.int .i64 m0] 3)) = W0 := ⟨_, rfl⟩
  rw [hW0] at hO hN hB hS
  simp only [hW0]
  clear hW0
  refine range_list (α := UInt8) (F := Fence.wide) (n := 3) rfl (by omega) (gf := 279) (lb := #[.pointer (some ⟨w.heap.size + 1, 0, none⟩)]) rfl trivial (enters_of Tryz.func279 (by kernel_rfl) rfl)
    (fun b => #[.int .u8 b.toNat]) (Sp.cput m0) (fun _ => rfl) (w.heap.size + 1) (by omega) ?hit (fun i W => Collected w w.heap.size (w.heap.size + 1) (Sp.cput m0) i W) ?hI ?hIc ?hId ?h0 ?a1 ?assign ?body ?done
  case assign =>
    intro l x W K hK
    gi_wp2
    exact hK
  case hit =>
    intro l J W hW hJ hJd hY h0
    exact groups_in Fence.wide 2 trivial rfl (by omega) l (w.heap.size + 1) m0 hm0 J hJ hY W ((hW.block _ (by omega)).trans hN) h0
  case hI =>
    refine OwnFrom.and (Own.from ?_ _) (OwnFrom.and (Own.from ?_ _) (ownFrom_below (Nat.le_refl _) (by omega)))
    · have := holdsRow_own (β := Nat) w.heap.size w.heap.size 172 5 1 (fun i => i) (fun i => ((Sp.cput m0).take i).map byteV) (fun _ _ => True)
      intro s X Y row h hg hr
      obtain ⟨v, h1, h2⟩ := h
      obtain ⟨v', h1', h2', _⟩ := this s X Y row ⟨v, h1, h2, trivial⟩ hg hr
      exact ⟨v', h1', h2'⟩
    · rintro s X Y row ⟨x, hx⟩ hg hr
      exact ⟨x, hx.kept hg (fun e' => by
        obtain ⟨o, ho, hc⟩ := hr _ e'.symm
        rw [show X.heap[w.heap.size + 1]? = _ from hx] at ho; cases ho; cases hc)⟩
  case hIc =>
    rintro i W v ⟨⟨u, h1, h2⟩, ⟨x, h3⟩, h4⟩
    exact ⟨⟨u, isBlk.far h1 (by omega) _, own_far h2 (fun e => (h3.not_row (by decide) h2) e.symm) _⟩, ⟨v, h3.set v⟩, h4.setCell (by simp) _⟩
  case hId =>
    rintro i W ⟨⟨u, h1, h2⟩, ⟨x, h3⟩, h4⟩
    exact ⟨⟨u, h1, h2⟩, ⟨x, h3⟩, h4.drew⟩
  case h0 => exact ⟨⟨_, hO, World.ownsRow_nil _ _ _ _⟩, ⟨_, hN⟩, hB⟩
  case body =>
    rintro l i hi W ⟨⟨v, h1, h2⟩, ⟨x, h3⟩, h4⟩
    have c0 := h1.cell
    have f0 := h1.frozen
    gi_wp2_with (gi_at_builtin; refine app_newIn (t := 172) (e := 5) (size := 1) (bytes := 1) ⟨Tryz.underlying172, by decide, by decide, i0, _, hif, hz0, hz1, hz2, rfl⟩ rfl _ _ rfl w.heap.size v i _ rfl h2 #[byteV ((Sp.cput m0)[i])] 5 1 rfl rfl (by intro u hu; simp at hu; subst hu; rfl) (by decide) (by omega) h4.size ?_)
    intro g cap w1 hown' hgrow hbg
    obtain ⟨hv1, hv2, hr2, hk2, hb2⟩ := Boxed.appended h1 (by decide) h2 h4.size (Nat.le_refl _) hown' hgrow
    have c1 := hv1.cell
    have f1 := hv1.frozen
    clear c0 f0
    gi_wp2_with fail
    refine ⟨?_, ⟨_, hv2, ?_⟩, ⟨x, ?_⟩, h4.trans hb2⟩
    · exact (Below.heap_setCell _ _ _ _ (by simp)).trans ((hgrow.block _ (by have := h3.lt; rw [World.size_alloc]; omega) (h3.not_row (by decide) h2)).trans (Below.heap_alloc W _ _ h3.lt))
    · rw [List.take_add_one, List.getElem?_eq_getElem hi, Option.toList_some, List.map_append, List.map_take]; exact hr2
    · exact isBlk.far ((h3.alloc _).kept hgrow (h3.not_row (by decide) h2)) (by omega) _
  case done =>
    rintro D W hD ⟨⟨v, h1, h2⟩, ⟨x, h3⟩, h4⟩ hK
    have c0 := h1.cell
    rw [List.take_length] at h2
    have hpos : 0 < (Sp.cput m0).length := List.length_pos_iff.2 (Sp.cput_ne m0)
    obtain ⟨g, cap, rfl, hg⟩ := owned_form h2 hpos
    have cv : (convert 172 9 (.slice (some ⟨g, 0, none⟩) (Sp.cput m0).length cap)).run Tryz.prog W = .ok (.string (strOf (Sp.cput m0))) W :=
      conv_cells Tryz.underlying172 Tryz.underlying5 Tryz.underlying9 g 0 cap (Sp.cput m0) (fun j hj => by
        rw [Nat.zero_add, owned_get h2 j hj (by simpa using hj)]; simp)
    gi_wp2_with fail
    refine ⟨by simp, .inl ⟨_, _, rfl, run_takeDeferred hK, ?_⟩⟩
    refine ⟨_, results_tmp rfl _ _ _, rfl, ?_⟩
    exact h4.trans (belowK_b (w := w) (Nat.le_refl _) W D _ _ (by omega) hK rfl rfl)
theorem cput_calls (n : Int) (w : World) : Calls Tryz.prog 186 #[.int .i64 n] w fun e w' => e = .returned (.string (strOf (Sp.put n))) ∧ Below w.heap.size w w' := by
  by_cases h : 0 ≤ n ∧ n ≤ 1073741824
  · have := callsIn_wide.1 (put_in n.toNat (by omega) w)
    rw [show ((n.toNat : Nat) : Int) = n by omega] at this
    rwa [show Sp.put n = Sp.cput n.toNat by unfold Sp.put; rw [if_pos h]]
  · have F := Lib.hid (show strOf (Sp.put n) = strOf [] by unfold Sp.put; rw [if_neg h])
    have R := Lib.hid (right_calls n w)
    rw [show decide (0 ≤ n ∧ n ≤ 1073741824) = false from decide_eq_false h] at R
    clear h
    go_enter Tryz.func186, Tryz.ntmps186
    go_wp2_with (go_at_call 246; refine R.out.mono ?_; rintro e w1 ⟨rfl, rfl⟩)
    go_ret
    exact ⟨by rw [F.out]; rfl, Below.refl _ _⟩
end
end Go.Proofs.YtmlfnidckfeebaaGreatDoor
namespace Go.Proofs.YtmlfnidckfeebaaGreatDoor
open Go.RowKit
namespace Sp
abbrev W := List UInt8 × Int
def wput (is : Bool) (s : List UInt8) (x : W) : W := if x.2 ≠ 0 then x else if is then (x.1 ++ s, 0) else (x.1, 2)
def wnum (n : Int) (x : W) : W := wput (decide (0 ≤ n ∧ n ≤ 1073741824)) (put n) x
def wtext (s : List UInt8) (x : W) : W := wput (decide (s.length ≤ 65536)) (put s.length ++ s) x
def wfail (e : Int) (x : W) : W := if x.2 = 0 then (x.1, e) else x
def wdone (x : W) : W := if x.2 = 0 then (x.1, 0) else ([], x.2)
theorem wput_len (is : Bool) (s : List UInt8) (x : W) : (wput is s x).1.length ≤ x.1.length + s.length := by
  unfold wput; split
  · omega
  · split
    · simp
    · simp
theorem wnum_len (n : Int) (x : W) : (wnum n x).1.length ≤ x.1.length + 5 := by have := wput_len (decide (0 ≤ n ∧ n ≤ 1073741824)) (put n) x; have := put_len n; unfold wnum; omega
theorem wtext_len (s : List UInt8) (x : W) : (wtext s x).1.length ≤ x.1.length + (5 + s.length) := by
  have := wput_len (decide (s.length ≤ 65536)) (put s.length ++ s) x; have := put_len (s.length : Int); unfold wtext; rw [List.length_append] at *; omega
theorem wfail_len (e : Int) (x : W) : (wfail e x).1.length = x.1.length := by unfold wfail; split <;> rfl
end Sp
abbrev IsWr (B g : Nat) (x : Sp.W) (w : World) : Prop := IsW B g x.1 x.2 w
theorem IsW.lt {B g : Nat} {l : List UInt8} {e : Int} {w : World} (h : IsW B g l e w) : g < w.heap.size := by
  obtain ⟨_, p, v, _, hb, _⟩ := h; exact hb.lt
theorem IsW.below {B g : Nat} {l : List UInt8} {e : Int} {w w' : World} (h : IsW B g l e w) (hb : Below w.heap.size w w') : IsW B g l e w' := by
  obtain ⟨h1, p, v, hp, hblk, hown, hne⟩ := h
  refine ⟨h1, p, v, hp, hblk.below hb, ?_, hne⟩
  refine ⟨hown.1, ?_⟩
  rcases hown.2 with hn | ⟨g', cap', cur, hv, hbg, hgg, rest⟩
  · exact .inl hn
  · exact .inr ⟨g', cap', cur, hv, hbg, (hb.block _ (Array.getElem?_eq_some_iff.1 hgg).1).trans hgg, rest⟩
theorem IsW.err {B g : Nat} {l : List UInt8} {e : Int} {w : World} (h : IsW B g l e w) (e' : Int) : IsW B g l e' (w.setCell ⟨g, 2, none⟩ (.int .i64 e')) := by
  obtain ⟨h1, p, v, hp, hblk, hown, hne⟩ := h
  exact ⟨h1, p, v, hp, hblk.put 2 _ rfl, own_far hown hne _, hne⟩
theorem IsW.kept {B g : Nat} {l : List UInt8} {e : Int} {w : World} (h : IsW B g l e w) (i : Nat) (u : Value) : Kept w (w.setCell ⟨g, i, none⟩ u) := by
  obtain ⟨h1, p, v, hp, hblk, hown, hne⟩ := h
  exact Kept.set hblk i u
theorem IsW.cell {B g : Nat} {l : List UInt8} {e : Int} {w : World} (h : IsW B g l e w) : w.cell? ⟨g, 2, none⟩ = some (.int .i64 e) ∧ w.frozen? ⟨g, 2, none⟩ = false := by
  obtain ⟨h1, p, v, hp, hblk, hown, hne⟩ := h
  exact ⟨(hblk.cell 2).trans rfl, hblk.frozen 2⟩
set_option maxRecDepth 100000 in
set_option maxHeartbeats 2000000 in
theorem wfail_calls (B g : Nat) (x : Sp.W) (e : Int) (w : World) (h : IsWr B g x w) :
    Calls Tryz.prog 135 #[.pointer (some ⟨g, 0, none⟩), .int .i64 e] w fun e' w' => e' = .returned (.tuple #[]) ∧ IsWr B g (Sp.wfail e x) w' ∧ Below B w w' ∧ Kept w w' ∧ w.heap.size ≤ w'.heap.size := by
  obtain ⟨c2, f2⟩ := h.cell
  have hB := h.1
  by_cases h0 : x.2 = 0
  · have F := Lib.hid (show Sp.wfail e x = (x.1, e) from if_pos h0)
    have IW := Lib.hid (h.err e)
    have KK := Lib.hid (h.kept 2 (.int .i64 e))
    rw [h0] at c2
    clear h h0
    go_enter Tryz.func135, Tryz.ntmps135
    go_wp2_with fail
    go_end0
    exact ⟨rfl, by rw [F.out]; exact IW.out, (Below.refl _ _).setCell hB _, KK.out, by simp⟩
  · have F := Lib.hid (show Sp.wfail e x = x from if_neg h0)
    have e1 : (x.2 == 0) = false := by simpa using h0
    have H := Lib.hid h
    clear h h0
    go_enter Tryz.func135, Tryz.ntmps135
    go_wp2_with fail
    go_end0
    exact ⟨rfl, by rw [F.out]; exact H.out, Below.refl _ _, Kept.refl _, Nat.le_refl _⟩
set_option maxRecDepth 100000 in
set_option maxHeartbeats 2000000 in
theorem wput_calls (B g k : Nat) (x : Sp.W) (is : Bool) (ss : List ByteArray) (w : World) (h : IsWr B g x w) (hk : isBlk w k 9 (ss.map Value.string).toArray) (hlen : x.1.length + (ss.flatMap (fun s => s.data.toList)).length ≤ 140737488355328) (hBw : B ≤ w.heap.size) (hss : ss.length ≤ 100) :
    Calls Tryz.prog 187 #[.pointer (some ⟨g, 0, none⟩), .bool is, .slice (some ⟨k, 0, none⟩) ss.length ss.length] w fun e' w' =>
      e' = .returned (.tuple #[]) ∧ IsWr B g (Sp.wput is (ss.flatMap (fun s => s.data.toList)) x) w' ∧ Below B w w' ∧ Kept w w' ∧ w.heap.size ≤ w'.heap.size := by
  obtain ⟨c2, f2⟩ := h.cell
  have hB := h.1
  by_cases h0 : x.2 = 0
  · rw [h0] at c2
    cases is with
    | false =>
      have F := Lib.hid (show Sp.wput false (ss.flatMap (fun s => s.data.toList)) x = (x.1, 2) by unfold Sp.wput; rw [if_neg (by simp [h0])]; rfl)
      have IW := Lib.hid (h.err 2)
      have KK := Lib.hid (h.kept 2 (.int .i64 2))
      clear h h0
      go_enter Tryz.func187, Tryz.ntmps187
      go_wp2_with fail
      go_end0
      exact ⟨rfl, by rw [F.out]; exact IW.out, (Below.refl _ _).setCell hB _, KK.out, by simp⟩
    | true =>
      have F := Lib.hid (show Sp.wput true (ss.flatMap (fun s => s.data.toList)) x = (x.1 ++ ss.flatMap (fun s => s.data.toList), 0) by unfold Sp.wput; rw [if_neg (by simp [h0])]; rfl)
      have H := Lib.hid (show IsW B g x.1 0 w by rw [← h0]; exact h)
      clear h h0
      go_enter Tryz.func187, Tryz.ntmps187
      go_wp2_with fail
      go_loopw [10] (fun v10 wr => ∃ i : Nat, i ≤ ss.length ∧ v10 = .int .i64 i ∧ IsWr B g (x.1 ++ (ss.take i).flatMap (fun s => s.data.toList), 0) wr ∧ Below B w wr ∧ Kept w wr ∧ w.heap.size ≤ wr.heap.size) (fun v10 _ => ss.length - (intOf v10).toNat)
      case atStart => exact ⟨0, Nat.zero_le _, rfl, by simpa using H.out, Below.refl _ _, Kept.refl _, Nat.le_refl _⟩
      case round =>
        obtain ⟨i, hi, rfl, hw, hb, hkp, hsz⟩ := hrel
        have hk' := hkp k _ _ hk (by decide) (by decide)
        by_cases hlt : i < ss.length
        · have q1 : decide ((i : Int) < (ss.length : Int)) = true := by rw [decide_eq_true_iff]; omega
          have ci : wr.cell? ⟨k, i, none⟩ = some (.string ss[i]) := by rw [hk'.at i (by simpa using hlt)]; simp
          have hl2 : (x.1 ++ (ss.take i).flatMap (fun s => s.data.toList)).length + ss[i].size ≤ 140737488355328 := by
            have e : ss.flatMap (fun s => s.data.toList) = (ss.take i).flatMap (fun s => s.data.toList) ++ (ss[i].data.toList ++ (ss.drop (i + 1)).flatMap (fun s => s.data.toList)) := by
              conv => lhs; rw [← List.take_append_drop i ss, List.drop_eq_getElem_cons hlt, List.flatMap_append, List.flatMap_cons]
            rw [e] at hlen
            simp only [List.length_append, show ss[i].data.toList.length = ss[i].size by simp] at hlen ⊢
            omega
          have e3 : ((ss.take (i + 1)).flatMap fun s => s.data.toList) = (ss.take i).flatMap (fun s => s.data.toList) ++ ss[i].data.toList := by
            rw [List.take_add_one, List.getElem?_eq_getElem hlt, Option.toList_some, List.flatMap_append]; simp
          have E3 := Lib.hid e3
          have C := Lib.hid (ws_calls B g _ 0 ss[i] wr hw hl2 (by omega))
          have WSZ := Lib.hid hsz
          clear hl2 e3 c2 f2 hlen hw
          go_wp2_with (go_at_call 248; refine C.out.mono ?_; rintro e w1 ⟨rfl, hw1, hb1, hk1⟩)
          go_roundw
          case rel => exact ⟨i + 1, by omega, by go_num, by rw [E3.out, ← List.append_assoc]; exact hw1, hb.trans hb1, hkp.trans hk1, Nat.le_trans WSZ.out hb1.size⟩
          case measure => simp [intOf]; omega
        · have q1 : decide ((i : Int) < (ss.length : Int)) = false := by rw [decide_eq_false_iff_not]; omega
          obtain rfl : i = ss.length := by omega
          rw [List.take_length] at hw
          have HW := Lib.hid hw
          clear hw c2 f2 hlen
          go_wp2_with fail
          go_end0
          exact ⟨rfl, by rw [F.out]; exact HW.out, hb, hkp, hsz⟩
  · have F := Lib.hid (show Sp.wput is (ss.flatMap (fun s => s.data.toList)) x = x by unfold Sp.wput; rw [if_pos (by simpa using h0)])
    have e1 : (x.2 == 0) = false := by simpa using h0
    have H := Lib.hid h
    clear h h0
    go_enter Tryz.func187, Tryz.ntmps187
    go_wp2_with fail
    go_end0
    exact ⟨rfl, by rw [F.out]; exact H.out, Below.refl _ _, Kept.refl _, Nat.le_refl _⟩
set_option maxRecDepth 100000 in
set_option maxHeartbeats 2000000 in
theorem wnum_calls (B g : Nat) (x : Sp.W) (n : Int) (w : World) (h : IsWr B g x w) (hlen : x.1.length ≤ 100000000000000) (hBw : B ≤ w.heap.size) :
    Calls Tryz.prog 120 #[.pointer (some ⟨g, 0, none⟩), .int .i64 n] w fun e' w' => e' = .returned (.tuple #[]) ∧ IsWr B g (Sp.wnum n x) w' ∧ Below B w w' ∧ Kept w w' ∧ w.heap.size ≤ w'.heap.size := by
  have P := Lib.hid (cput_calls n w)
  have hp := Sp.put_len n
  obtain ⟨l, hl⟩ : ∃ l, l = Sp.put n := ⟨_, rfl⟩
  have e1 : (!l.isEmpty) = decide (0 ≤ n ∧ n ≤ 1073741824) := by
    rw [hl]; have := Sp.put_ne (n := n)
    by_cases h1 : 0 ≤ n ∧ n ≤ 1073741824
    · rw [decide_eq_true h1]; have := this.2 h1; simpa using this
    · rw [decide_eq_false h1]; have h2 : ¬ _ := fun a => h1 (this.1 a); simpa using h2
  have e2 := strOf_toList l
  rw [← hl] at P hp
  have F := Lib.hid (show Sp.wnum n x = Sp.wput (decide (0 ≤ n ∧ n ≤ 1073741824)) l x by rw [hl]; rfl)
  clear hl
  have PU := Lib.hid fun (W : World) (hb : Below w.heap.size w W) =>
    wput_calls B g W.heap.size x (decide (0 ≤ n ∧ n ≤ 1073741824)) [strOf l] (W.alloc (.cells #[.string (strOf l)] 9)) ((h.below hb).below ((Below.refl _ _).alloc (Nat.le_refl _) _)) (heap_alloc_new _ _) (by simp; omega) (by have := hb.size; simp; omega) (by simp)
  have HB := Lib.hid hBw
  obtain ⟨b, hb⟩ : ∃ b, b = decide (0 ≤ n ∧ n ≤ 1073741824) := ⟨_, rfl⟩
  rw [← hb] at e1 F PU
  clear h hBw hb
  go_enter Tryz.func120, Tryz.ntmps120
  go_wp2_with (first
    | (go_at_call 186; refine P.out.mono ?_; rintro e w1 ⟨rfl, hb1⟩)
    | (go_at_call 187; refine (PU.out w1 hb1).mono ?_; rintro e w2 ⟨rfl, hw2, hb2, hk2, hs2⟩))
  go_end0
  have h1 : Below B w (w1.alloc (.cells #[.string (strOf l)] 9)) := (hb1.mono HB.out).alloc (Nat.le_trans HB.out hb1.size) _
  refine ⟨rfl, ?_, h1.trans hb2, ((Kept.below hb1).trans (Kept.below ((Below.refl _ _).alloc (Nat.le_refl _) _))).trans hk2, ?_⟩
  · rw [F.out]; simpa using hw2
  · have := hb1.size; have := HB.out; rw [World.size_alloc] at hs2; omega
set_option maxRecDepth 100000 in
set_option maxHeartbeats 2000000 in
theorem wtext_calls (B g : Nat) (x : Sp.W) (s : ByteArray) (w : World) (h : IsWr B g x w) (hlen : x.1.length ≤ 100000000000000) (hs : s.size < 4294967200) (hBw : B ≤ w.heap.size) :
    Calls Tryz.prog 191 #[.pointer (some ⟨g, 0, none⟩), .string s] w fun e' w' => e' = .returned (.tuple #[]) ∧ IsWr B g (Sp.wtext s.data.toList x) w' ∧ Below B w w' ∧ Kept w w' ∧ w.heap.size ≤ w'.heap.size := by
  have P := Lib.hid (cput_calls (s.size : Int) w)
  have hp := Sp.put_len (s.size : Int)
  obtain ⟨l, hl⟩ : ∃ l, l = Sp.put (s.size : Int) := ⟨_, rfl⟩
  rw [← hl] at P hp
  have hdl : s.data.toList.length = s.size := by simp
  have F := Lib.hid (show Sp.wtext s.data.toList x = Sp.wput (decide ((s.size : Int) ≤ 65536)) (l ++ s.data.toList) x by
    unfold Sp.wtext; rw [hl, hdl, show decide ((s.size : Int) ≤ 65536) = decide (s.size ≤ 65536) by rw [decide_eq_decide]; omega])
  clear hl
  have PU := Lib.hid fun (W : World) (hb : Below w.heap.size w W) =>
    wput_calls B g W.heap.size x (decide ((s.size : Int) ≤ 65536)) [strOf l, s] (W.alloc (.cells #[.string (strOf l), .string s] 9)) ((h.below hb).below ((Below.refl _ _).alloc (Nat.le_refl _) _)) (heap_alloc_new _ _) (by simp; omega) (by have := hb.size; simp; omega) (by simp)
  have HB := Lib.hid hBw
  obtain ⟨b, hb⟩ : ∃ b, decide ((s.size : Int) ≤ 65536) = b := ⟨_, rfl⟩
  rw [hb] at F PU
  clear h hBw hdl
  go_enter Tryz.func191, Tryz.ntmps191
  go_wp2_with (first
    | (go_at_call 186; refine P.out.mono ?_; rintro e w1 ⟨rfl, hb1⟩)
    | (go_at_call 187; refine (PU.out w1 hb1).mono ?_; rintro e w2 ⟨rfl, hw2, hb2, hk2, hs2⟩))
  go_end0
  have h1 : Below B w (w1.alloc (.cells #[.string (strOf l), .string s] 9)) := (hb1.mono HB.out).alloc (Nat.le_trans HB.out hb1.size) _
  refine ⟨rfl, ?_, h1.trans hb2, ((Kept.below hb1).trans (Kept.below ((Below.refl _ _).alloc (Nat.le_refl _) _))).trans hk2, ?_⟩
  · rw [F.out]; simpa using hw2
  · have := hb1.size; have := HB.out; rw [World.size_alloc] at hs2; omega
end Go.Proofs.YtmlfnidckfeebaaGreatDoor
