/- What a number's bytes are: plain. Walks: names, pieces and patterns, the program's and the reference's. Walks: a number that is read, and the reference's. Walks: a number that is written, the reference's. A range over a function that tells a list, and that writes a variable of its own meanwhile; the body goes through all of it. Walks: a strings.Builder within a coder.Writer. -/
import Derived.Test.YteiblfcehlibpaaGreatDoorGF03
import Derived.Laws.BitsLemmas
import Derived.Test.YteiblfcehlibpaaGreatDoorShelf
import Derived.Test.YteiblfcehlibpaaGreatDoorGF01
import Derived.Deep.RegionWith
import Derived.RangeFuncNested
import Derived.RangeFuncBound
import Derived.RangeFuncCalls
import Derived.RangeFuncLeaves
import Derived.Lib.Builder
import Derived.Lib.AppendStr
import Derived.Laws.Externs
namespace Go.Proofs.YteiblfcehlibpaaGreatDoor
namespace Sp
/-- A number's bytes, the lowest first. -/
def cput (n : Nat) : List UInt8 := if n < 128 then [UInt8.ofNat n] else UInt8.ofNat (n % 128 + 128) :: cput (n / 128)
termination_by n
decreasing_by omega
def put (n : Int) : List UInt8 := if 0 ≤ n ∧ n ≤ 1073741824 then cput n.toNat else []
/-- The number of bytes. -/
def num : List UInt8 → Nat
  | [] => 0
  | b :: l => b.toNat % 128 + 128 * num l
/-- The place of the first byte below 128, from place i on, among so many. -/
def cend (l : List UInt8) : Nat → Nat → Option Nat
  | 0, _ => none
  | f + 1, i => match l[i]? with
    | none => none
    | some b => if b.toNat < 128 then some i else cend l f (i + 1)
/-- The number that bytes begin with, how many bytes it has, or what is wrong. -/
def take (l : List UInt8) : Nat × Nat × Int := match cend l 5 0 with
  | none => if l.length < 5 then (0, 0, 5) else (0, 0, 2)
  | some i => if l[i]? = some 0 ∧ 0 < i then (0, 0, 7) else if 1073741824 < num (l.take (i + 1)) then (0, 0, 2) else (num (l.take (i + 1)), i + 1, 0)
theorem cput_len (n : Nat) (h : n ≤ 1073741824) : (cput n).length ≤ 5 := by
  rw [cput]; split
  · simp
  · rw [cput]; split
    · simp
    · rw [cput]; split
      · simp
      · rw [cput]; split
        · simp
        · rw [cput]; split
          · simp
          · exfalso; omega
theorem cput_ne (n : Nat) : cput n ≠ [] := by rw [cput]; split <;> simp
theorem put_ne {n : Int} : put n ≠ [] ↔ 0 ≤ n ∧ n ≤ 1073741824 := by
  unfold put; split
  · simp [cput_ne, *]
  · simp [*]
theorem put_len (n : Int) : (put n).length ≤ 5 := by
  unfold put; split
  · exact cput_len _ (by omega)
  · simp
end Sp
end Go.Proofs.YteiblfcehlibpaaGreatDoor
namespace Go.Proofs.YteiblfcehlibpaaGreatDoor
open Go.RowKit

theorem indexByte_mem (c : UInt8) : ∀ l : List UInt8, -1 ≤ Lib.indexByte l c ∧ (0 ≤ Lib.indexByte l c ↔ c ∈ l)
  | [] => by simp [Lib.indexByte]
  | b :: l => by
    have ih := indexByte_mem c l
    unfold Lib.indexByte
    by_cases h : b = c
    · subst h; simp
    · have h' : (b == c) = false := by simpa using h
      rw [h']
      by_cases e : Lib.indexByte l c = -1
      · simp only [Bool.false_eq_true, if_false, beq_iff_eq, e, if_true, List.mem_cons]
        refine ⟨by omega, by constructor; omega; rintro (rfl | hm); exact absurd rfl h; have := ih.2.2 hm; omega⟩
      · simp only [Bool.false_eq_true, if_false, beq_iff_eq, e, List.mem_cons]
        refine ⟨by omega, ?_⟩
        rw [← ih.2]
        constructor
        · intro _; right; omega
        · rintro (rfl | hm); exact absurd rfl h; omega
theorem index_wild (c : UInt8) : decide (0 ≤ Lib.indexByte [46, 95, 45, 42, 63] c) = (c == 46 || c == 95 || c == 45 || c == 42 || c == 63) := by
  rw [Bool.eq_iff_iff, decide_eq_true_eq, (indexByte_mem c _).2]; simp [or_assoc]

set_option maxHeartbeats 400000 in
theorem wild_calls (c : UInt8) (w : World) : Calls Tryz.prog 184 #[.int .u8 c.toNat] w fun e w' => e = .returned (.bool (Sp.wild c)) ∧ w = w' := by
  have hw : Sp.wild c = (Sp.low c || decide (0 ≤ Lib.indexByte [46, 95, 45, 42, 63] c)) := by
    rw [index_wild]; unfold Sp.wild Sp.sign; simp [Bool.or_assoc]
  have HW := Lib.hid hw
  clear hw
  have b := byte_lt c
  go_enter Tryz.func184, Tryz.ntmps184
  go_wp2_with (go_at_call 213; refine (Tryz.strings_IndexByte _ _ _).mono ?_; rintro e w' ⟨rfl, rfl⟩)
  all_goals
    go_ret
    exact ⟨ret_bool (by
      rw [HW.out, Bool.eq_iff_iff]
      simp only [Sp.low, Bool.or_eq_true, Bool.and_eq_true, decide_eq_true_eq, UInt8.le_iff_toNat_le]
      simp [*] <;> omega), rfl⟩

set_option maxHeartbeats 400000 in
theorem piece_calls (s : ByteArray) (w : World) (hsh : ∃ m, w.cell? ⟨0, 0, none⟩ = some (.int .i64 m)) (hs : s.size < 4294967281) : Calls Tryz.prog 146 #[.string s] w fun e w' => e = .returned (.bool (Sp.piece s.data.toList)) ∧ w = w' := by
  go_enter Tryz.func146, Tryz.ntmps146
  go_wp2
  go_loop [3, 6] (fun t i => ∃ k : Nat, k ≤ s.size ∧ i = .int .i64 k ∧ (s.data.toList.take k).all Sp.wild = true) (fun _ i => s.size - (intOf i).toNat)
  case atStart => exact ⟨0, Nat.zero_le _, rfl, rfl⟩
  case round =>
    obtain ⟨k, hk, rfl, hall⟩ := hrel
    by_cases hlt : k < s.size
    · have ht := Lib.hid (take_all s k hlt Sp.wild hall)
      go_wp2_with (go_at_call 184; refine (wild_calls _ _).mono ?_; rintro e w' ⟨rfl, rfl⟩)
      · have hn : (!Sp.wild s[k]) = true := by assumption
        go_ret
        exact ⟨ret_bool (by unfold Sp.piece; rw [all_no s k hlt Sp.wild (by simpa using hn)]; rfl), rfl⟩
      · have hn : (!Sp.wild s[k]) = false := by assumption
        go_round
        case rel => exact ⟨k + 1, by omega, by go_num, by rw [ht.out]; simpa using hn⟩
        case measure => simp [intOf]; omega
    · have hk' : k = s.size := by omega
      subst hk'
      rw [take_size] at hall
      have H := Lib.hid hall
      clear hall
      have hp : Sp.piece s.data.toList = (decide (s.toList ≠ []) && (decide (s.toList = [42, 42]) || !Lib.contains s.data.toList [42, 42])) := by
        rw [toList_data, Sp.contains_two]; unfold Sp.piece; rw [H.out]; rfl
      have HP := Lib.hid hp
      clear hp
      obtain ⟨m, hm⟩ := hsh
      go_wp2_with (go_at_call 185; refine (Tryz.strings_Contains _ _ _ _ hs hm).mono ?_; rintro e w' ⟨rfl, rfl⟩)
      all_goals
        go_ret
        exact ⟨ret_bool (by rw [HP.out, Bool.eq_iff_iff]; simp [*]), rfl⟩
end Go.Proofs.YteiblfcehlibpaaGreatDoor
namespace Go.Proofs.YteiblfcehlibpaaGreatDoor
open Go.RowKit
theorem right_calls (n : Int) (w : World) : Calls Tryz.prog 254 #[.int .i64 n] w fun e w' => e = .returned (.bool (decide (0 ≤ n ∧ n ≤ 1073741824))) ∧ w = w' := by
  by_cases h0 : 0 ≤ n
  · have e1 : decide (0 ≤ n) = true := decide_eq_true h0
    have F := Lib.hid (show decide (0 ≤ n ∧ n ≤ 1073741824) = decide (n ≤ 1073741824) by rw [decide_eq_decide]; omega)
    clear h0
    go_enter Tryz.func254, Tryz.ntmps254
    go_wp2_with fail
    go_ret
    exact ⟨ret_bool F.out.symm, rfl⟩
  · have e1 : decide (0 ≤ n) = false := decide_eq_false h0
    have F := Lib.hid (show decide (0 ≤ n ∧ n ≤ 1073741824) = false by rw [decide_eq_false_iff_not]; omega)
    clear h0
    go_enter Tryz.func254, Tryz.ntmps254
    go_wp2_with fail
    go_ret
    exact ⟨ret_bool F.out.symm, rfl⟩
end Go.Proofs.YteiblfcehlibpaaGreatDoor
namespace Go.Proofs.YteiblfcehlibpaaGreatDoor
open Go.RowKit
end Go.Proofs.YteiblfcehlibpaaGreatDoor
namespace Go.Proofs.YteiblfcehlibpaaGreatDoor
open Go.RowKit
/-- A block is as it was. -/
def SameAt (b : Nat) (W W' : World) : Prop := W'.heap[b]? = W.heap[b]?
theorem range_list {F : Fence} {n : Nat} {P : Program} {α : Type} {g : Operand} {ps : Array Tmp} {assign body : Code} {Q : Exit → Act → World → Prop} {a : Act} {w : World}
    (hro : F.round = none) (h1 : 1 ≤ n) {gf : Nat} {lb : Array Value} (hg : a.eval g = .func (.func gf) #[] lb) (hFg : F.fn gf) (eg : ∀ args w, (callFunc gf args).run P w = .ok (.enter gf args) w)
    (encs : α → Array Value) (xs : List α) (hps : ∀ x, (encs x).size = ps.size) (Bn : Nat) (hBn : Bn < w.heap.size)
    (hit : ∀ (l : Nat) (J : Nat → World → Prop) (W : World), Below w.heap.size w W → (∀ i W v, J i W → J i (W.setCell ⟨Bn, 0, none⟩ v)) → (∀ i W, J i W → J i W.drew) →
      (∀ i (hi : i < xs.length) (W1 : World), J i W1 → YieldAt F (n - 1 - 1) P l (encs xs[i]) W1 fun e W' => e = .returned (.bool true) ∧ J (i + 1) W' ∧ SameAt Bn W1 W') → J 0 W →
      CallsIn F (n - 1) P gf (#[.func (.yield l) #[] #[]] ++ lb) W fun e W' => (∃ v, e = .returned v) ∧ J xs.length W')
    (I : Nat → World → Prop) (hI : OwnFrom w.heap.size I) (hIc : ∀ i W v, I i W → I i (W.setCell ⟨Bn, 0, none⟩ v)) (hId : ∀ i W, I i W → I i W.drew) (h0 : I 0 w) (a₁ : α → Act)
    (hassign : ∀ (l : Nat) (x : α) (W : World) (K : Act → World → Prop), K (a₁ x) W →
      assign.wpIn (F.inRound l) (n - 1 - 1) P (Exit.then K (fun _ _ _ => False)) { tmps := (ps.zip (encs x)).foldl (fun t (p, v) => t.setIfInBounds p v) a.tmps, defers := [] } W)
    (hbody : ∀ (l i : Nat) (hi : i < xs.length) (W : World), I i W → body.wpIn (F.inRound l) (n - 1 - 1) P (fun e _ W' => e = .normal ∧ KeepsOthers W W' ∧ SameAt Bn W W' ∧ I (i + 1) W') (a₁ xs[i]) W)
    (hdone : ∀ (D : Nat) (W : World), w.heap.size ≤ D → I xs.length W → W.heap[D]? = some (.deferred (some [])) → Q .normal { a with defers := { target := .collected D, args := #[] } :: a.defers } W) :
    (Code.rangeFunc g ps assign body).wpIn F n P Q a w := by
  refine wpIn_rangeFunc fun fn hfn => ?_
  rw [hro]
  obtain ⟨rec, hrec⟩ : ∃ rec : LoopState → Option Code → Loop, rec = fun st pe => { state := st, pending := pe, fn, tmps := a.tmps, params := ps, assign, body, defers := w.heap.size } := ⟨_, rfl⟩
  obtain ⟨D, hD⟩ : ∃ D, D = w.heap.size := ⟨_, rfl⟩
  obtain ⟨L, hL⟩ : ∃ L, L = w.heap.size + 1 := ⟨_, rfl⟩
  obtain ⟨W1, hW1⟩ : ∃ W1, (w.alloc (.deferred (some []))).alloc (.loop (rec .ready none)) = W1 := ⟨_, rfl⟩
  have hs0 : (w.alloc (.deferred (some []))).heap.size = L := by rw [hL]; simp
  have hl1 : W1.heap[L]? = some (.loop (rec .ready none)) := by rw [← hW1, ← hs0]; exact World.alloc_heap_new _ _
  have hd1 : W1.heap[D]? = some (.deferred (some [])) := by
    rw [← hW1, hD]; exact (Below.heap_alloc _ _ _ (by simp)).trans (World.alloc_heap_new w _)
  have hi1 : I 0 W1 := by rw [← hW1]; exact hI.alloc _ (hI.alloc _ h0)
  have hb1 : Below w.heap.size w W1 := by rw [← hW1]; exact ((Below.refl _ w).alloc (Nat.le_refl _) _).alloc (by simp) _
  refine ⟨L, [{ target := .collected w.heap.size, args := #[] }], W1, { target := .fn (.func gf) lb, args := #[.func (.yield L) #[] #[]] }, W1, gf, #[.func (.yield L) #[] #[]] ++ lb, W1, ?_, ?_, ?_, ?_, fun _ => h1, ?_⟩
  · rw [← hW1, hrec, hL]; exact run_enterLoop_outer _ _ _ _ _
  · simp only [resolve, hg]
    simp [go_sem]
  · intro f' hf'; simp [Target.leads] at hf'; subst hf'; exact hFg
  · simp [invoke, go_sem, eg]
  · have farL : Bn ≠ L := by omega
    have farD : Bn ≠ D := by omega
    refine (hit L (fun i W => I i W ∧ W.heap[L]? = some (.loop (rec .ready none)) ∧ W.heap[D]? = some (.deferred (some []))) W1 hb1
      (fun i W v h => ⟨hIc i W v h.1, by rw [Below.heap_setCell _ _ _ _ (Ne.symm farL)]; exact h.2.1, by rw [Below.heap_setCell _ _ _ _ (Ne.symm farD)]; exact h.2.2⟩)
      (fun i W h => ⟨hId i W h.1, h.2.1, h.2.2⟩) ?_ ⟨hi1, hl1, hd1⟩).mono ?_
    · rintro i hi W ⟨hiW, hl, hd⟩
      have hlt : L < W.heap.size := (Array.getElem?_eq_some_iff.1 hl).1
      have hy := run_yield (P := P) (args := encs xs[i]) hl (by rw [hrec]; exact hps xs[i])
      rw [hrec] at hy
      refine ⟨fn, _, assign, body, hy, roundIn_of_wpIn hfn (hassign _ xs[i] W _ ⟨_, run_beginRound hl (by rw [hrec]), ?_⟩)⟩
      obtain ⟨busy, hbusy⟩ : ∃ busy : Loop, busy = { rec .ready none with state := .busy } := ⟨_, rfl⟩
      rw [← hbusy]
      have hl2 : (W.putObj L (.loop busy)).heap[L]? = some (.loop busy) := World.putObj_heap_same hlt
      have hd2 : (W.putObj L (.loop busy)).heap[D]? = some (.deferred (some [])) := (World.putObj_heap_other (by omega)).trans hd
      refine wpIn_mono (hbody _ i hi _ (hI.putObj _ hiW (by omega) hl rfl)) ?_
      rintro e a3 W3 ⟨rfl, hk3, hs3, hi3⟩
      have hl3 := hk3.same _ _ hl2 rfl
      have hd3 := hk3.same _ _ hd2 rfl
      have hr := run_endRound (P := P) (none : Option Code) hl3
      rw [hbusy, hrec] at hr
      refine ⟨_, _, hr, rfl, ⟨hI.putObj _ hi3 (by omega) hl3 rfl, ?_, (World.putObj_heap_other (by omega)).trans hd3⟩, ?_⟩
      · rw [hrec]; exact World.putObj_heap_same (Array.getElem?_eq_some_iff.1 hl3).1
      · exact (World.putObj_heap_other (by omega)).trans (hs3.trans (World.putObj_heap_other (by omega)))
    · rintro e W2 ⟨⟨v, rfl⟩, hi, hl, hd⟩
      refine ⟨none, _, by have := run_endLoop (P := P) hl (by rw [hrec]; simp); rw [hrec] at this; exact this, ?_⟩
      rw [← hD]
      exact hdone D _ (by omega) (hI.putObj _ hi (by omega) hl rfl) ((World.putObj_heap_other (by omega)).trans hd)
end Go.Proofs.YteiblfcehlibpaaGreatDoor
namespace Go.Proofs.YteiblfcehlibpaaGreatDoor
open Go.RowKit
theorem info_of {t n : Nat} (h : (Tryz.prog.info? t).map (·.size) = some n) : ∃ j, Tryz.prog.info? t = some j ∧ j.size = n := Option.map_eq_some_iff.1 h
set_option maxRecDepth 100000 in
set_option maxHeartbeats 1000000 in
theorem cc_used (g : Nat) (w : World) (v e : Value) (h : isBlk w g 227 #[.pointer (some ⟨g, 0, none⟩), v, e]) :
    Calls Tryz.prog 208 #[.pointer (some ⟨g, 0, none⟩)] w fun e' w' => e' = .returned (.tuple #[]) ∧ w = w' := by
  obtain ⟨j, hj, _⟩ := info_of (t := 185) (n := 2) (by kernel_rfl)
  have c0 := (h.cell 0).trans rfl
  go_enter Tryz.func208, Tryz.ntmps208
  go_wp2_with fail
  rw [Lib.run_neq_ptr_same _ _ Tryz.underlying182 hj]
  go_wp2_with fail
  go_end0
  exact ⟨rfl, rfl⟩
set_option maxRecDepth 100000 in
set_option maxHeartbeats 1000000 in
theorem cc_fresh (g : Nat) (w : World) (v e : Value) (h : isBlk w g 227 #[.pointer none, v, e]) :
    Calls Tryz.prog 208 #[.pointer (some ⟨g, 0, none⟩)] w fun e' w' => e' = .returned (.tuple #[]) ∧ w' = w.setCell ⟨g, 0, none⟩ (.pointer (some ⟨g, 0, none⟩)) := by
  obtain ⟨j, hj, hjs⟩ := info_of (t := 185) (n := 2) (by kernel_rfl)
  have c0 := (h.cell 0).trans rfl
  have f0 := h.frozen 0
  have hsh : w.shape? g = some (227, 3) := h.shape
  go_enter Tryz.func208, Tryz.ntmps208
  go_wp2_with fail
  rw [Lib.run_to_unsafe w ⟨g, 0, none⟩ Tryz.underlying182 Tryz.underlying233 hj (by rw [hjs]; decide) hsh (Nat.zero_lt_succ 2)]
  simp only [Result.andThen]
  rw [Oper.upon_value]
  go_wp2_with fail
  rw [run_callFunc_extern Tryz.func231 (by kernel_rfl) (by kernel_rfl) (by kernel_rfl) (e := Extern.AbiNoEscape.same) (by kernel_rfl)]
  rw [Lib.run_noEscape]
  simp only [Result.andThen]
  rw [Oper.upon_value]
  go_wp2_with fail
  rw [Lib.run_from_unsafe w ⟨g, 0, none⟩ Tryz.underlying233 Tryz.underlying182 hj hsh (by kernel_rfl)]
  simp only [Result.andThen]
  rw [Oper.upon_value]
  go_wp2_with fail
  go_end0
  exact ⟨rfl, rfl⟩
/-- Blocks of other types than a writer's are as they were. -/
def Kept (w w' : World) : Prop := ∀ k t cs, isBlk w k t cs → t ≠ 5 → t ≠ 227 → isBlk w' k t cs
theorem Kept.refl (w : World) : Kept w w := fun _ _ _ h _ _ => h
theorem Kept.trans {a b c : World} (h : Kept a b) (h' : Kept b c) : Kept a c := fun k t cs hk h1 h2 => h' k t cs (h k t cs hk h1 h2) h1 h2
theorem Kept.below {w w' : World} (h : Below w.heap.size w w') : Kept w w' := fun _ _ _ hk _ _ => hk.below h
theorem Kept.set {w : World} {g : Nat} {cs : Array Value} (h : isBlk w g 227 cs) (i : Nat) (u : Value) : Kept w (w.setCell ⟨g, i, none⟩ u) := fun k t cs' hk _ h2 => by
  have hne : k ≠ g := by
    rintro rfl
    rw [isBlk, show w.heap[k]? = _ from h] at hk
    injection hk with hk
    injection hk with _ h5
    exact h2 h5.symm
  exact hk.far hne u
theorem Kept.grown {w w' : World} {B n : Nat} {v : Value} {xs : List Value} (h : w.ownsRow B 5 1 v n xs) (hg : w.grownBy w' v.ownBlock) : Kept w w' := fun k t cs hk h1 _ => by
  refine (hg.block k hk.lt (fun e => ?_)).trans hk
  rcases h.2 with ⟨hn, _⟩ | ⟨g', cap', cur, hv, _, hgg, _⟩
  · rw [hn] at e; cases e
  · rw [hv] at e
    have e3 : k = g' := by simpa [Value.ownBlock] using e
    rw [← e3, show w.heap[k]? = _ from hk] at hgg
    injection hgg with hgg
    injection hgg with _ h5
    exact h1 h5
/-- A writer: the bytes that were put, and what is wrong. -/
def IsW (B g : Nat) (l : List UInt8) (e : Int) (w : World) : Prop :=
  B ≤ g ∧ ∃ p v, (p = .pointer none ∨ p = .pointer (some ⟨g, 0, none⟩)) ∧ isBlk w g 227 #[p, v, .int .i64 e] ∧ w.ownsRow B 5 1 v l.length (l.map byteV) ∧ v.ownBlock ≠ some g
/-- A row of the call's own stays while a cell of another block is written. -/
theorem own_far {w : World} {base g j n : Nat} {e : TypeId} {size : Nat} {v : Value} {xs : List Value} (h : w.ownsRow base e size v n xs) (hne : v.ownBlock ≠ some g) (u : Value) : (w.setCell ⟨g, j, none⟩ u).ownsRow base e size v n xs := by
  refine ⟨h.1, ?_⟩
  rcases h.2 with hn | ⟨g', cap', cur, hv, hbg, hgg, rest⟩
  · exact .inl hn
  · refine .inr ⟨g', cap', cur, hv, hbg, ?_, rest⟩
    rw [Below.heap_setCell _ _ _ _ (fun e => hne (by rw [hv]; simp [Value.ownBlock] at *; exact e))]; exact hgg
theorem cc_calls (B g : Nat) (p v e : Value) (xs : List Value) (n : Nat) (w : World) (hB : B ≤ g) (hp : p = .pointer none ∨ p = .pointer (some ⟨g, 0, none⟩)) (hb : isBlk w g 227 #[p, v, e]) (hown : w.ownsRow B 5 1 v n xs) (hne : v.ownBlock ≠ some g) :
    Calls Tryz.prog 208 #[.pointer (some ⟨g, 0, none⟩)] w fun e' w' => e' = .returned (.tuple #[]) ∧ isBlk w' g 227 #[.pointer (some ⟨g, 0, none⟩), v, e] ∧ w'.ownsRow B 5 1 v n xs ∧ Below B w w' ∧ w'.heap.size = w.heap.size ∧ Kept w w' := by
  rcases hp with rfl | rfl
  · refine (cc_fresh g w v e hb).mono ?_
    rintro e' w' ⟨rfl, rfl⟩
    exact ⟨rfl, hb.put 0 _ rfl, own_far hown hne _, (Below.refl _ _).setCell hB _, by simp, Kept.set hb 0 _⟩
  · refine (cc_used g w v e hb).mono ?_
    rintro e' w' ⟨rfl, rfl⟩
    exact ⟨rfl, hb, hown, Below.refl _ _, rfl, Kept.refl _⟩
theorem own_slice {w : World} {base n : Nat} {e : TypeId} {size : Nat} {v : Value} {xs : List Value} (h : w.ownsRow base e size v n xs) : ∃ x m k, v = .slice x m k := by
  rcases h.2 with ⟨hn, _⟩ | ⟨g', cap', cur, hv, _⟩
  · exact ⟨none, 0, 0, hn⟩
  · exact ⟨_, _, _, hv⟩
theorem strCells_eq (s : ByteArray) : Lib.strCells s = s.data.toList.map byteV := by
  unfold Lib.strCells; rfl
set_option maxRecDepth 100000 in
set_option maxHeartbeats 1000000 in
theorem ws_calls (B g : Nat) (l : List UInt8) (e : Int) (s : ByteArray) (w : World) (h : IsW B g l e w) (hlen : l.length + s.size ≤ 140737488355328) (hBw : B ≤ w.heap.size) :
    Calls Tryz.prog 176 #[.pointer (some ⟨g, 0, none⟩), .string s] w fun e' w' => e' = .returned (.tuple #[.int .i64 s.size, .nilIface]) ∧ IsW B g (l ++ s.data.toList) e w' ∧ Below B w w' ∧ Kept w w' := by
  obtain ⟨hB, p, v, hp, hblk, hown, hne⟩ := h
  obtain ⟨i0, hi, hz0, hz1, hz2⟩ := info_parts (show (Tryz.prog.info? 5).map (fun i => (i.zero, i.size, i.bytes)) = some (some (.int .u8 0), 1, 1) by kernel_rfl)
  have C := Lib.hid (cc_calls B g p v (.int .i64 e) _ _ w hB hp hblk hown hne)
  have HL := Lib.hid hblk.lt
  clear hp hblk hown
  go_enter Tryz.func176, Tryz.ntmps176
  go_wp2_with (first
    | (go_at_call 208; refine C.out.mono ?_; rintro e' w1 ⟨rfl, hb1, hown1, hbl1, hsz1, hk1⟩; have c0 := (hb1.cell 0).trans rfl; have c1 := (hb1.cell 1).trans rfl)
    | (refine Lib.wpList_append_own_string _ rfl _ _ 183 9 rfl B 5 i0 Tryz.underlying183 Tryz.underlying9 hi hz0 hz1 hz2 _ _ _ rfl hown1 s rfl ?c3 ?c4 ?c5 ?_))
  case c3 => unfold maxLen; omega
  case c4 => exact hlen
  case c5 => have := hbl1.size; omega
  intro v' w2 hown' hgrow _
  have hb2 : isBlk w2 g 227 #[.pointer (some ⟨g, 0, none⟩), v, .int .i64 e] := (hgrow.block g hb1.lt (fun e => hne e.symm)).trans hb1
  have hbl2 : Below B w w2 := hbl1.grown hgrow (Nat.le_trans hBw hbl1.size) (fun k e => hown1.lt k e |>.1)
  obtain ⟨x2, m2, k2, rfl⟩ : ∃ x m k, v' = .slice x m k := own_slice hown'
  have d1 := (hb2.cell 1).trans rfl
  have g1 := hb2.frozen 1
  clear c0 c1
  go_wp2_with fail
  go_ret2
  have HNE : (Value.slice x2 m2 k2).ownBlock ≠ some g := by
    intro e2
    rcases hown'.2 with ⟨hn, _⟩ | ⟨g', cap', cur, hv, _, hgg, _⟩
    · rw [hn] at e2; cases e2
    · rw [hv] at e2
      have e3 : g' = g := by simpa [Value.ownBlock] using e2
      rw [e3, show w2.heap[g]? = _ from hb2] at hgg
      injection hgg with hgg
      injection hgg with _ h5
      exact absurd h5 (by decide)
  refine ⟨rfl, ⟨hB, _, _, .inr rfl, hb2.put 1 _ rfl, ?_, HNE⟩, hbl2.setCell hB _, (hk1.trans (Kept.grown hown1 hgrow)).trans (Kept.set hb2 1 _)⟩
  rw [List.length_append, List.map_append, ← strCells_eq, show s.data.toList.length = s.size by simp]
  exact own_far hown' HNE _
end Go.Proofs.YteiblfcehlibpaaGreatDoor
