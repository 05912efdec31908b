/- Walks: strings.Join of a path's names. The laws for regions that draw their order, where a range over a function calls back (a fence that lets all in; a round, or none). A range over a function that tells a list: what its iterator reads stays while the body writes blocks of some types. What a tree in memory lists, and where: plain. -/
import Derived.Test.YtmlfnidckfeebaaGreatDoorP018
namespace Go.Proofs.YtmlfnidckfeebaaGreatDoor
open Go.RowKit Go.Shelf
attribute [local go_sem] yUpon strOf_toList
set_option maxRecDepth 100000 in
set_option maxHeartbeats 1000000 in
theorem copyck_calls (b : Nat) (w : World) (h0 : w.cell? ⟨b, 0, none⟩ = some (.pointer (some ⟨b, 0, none⟩))) :
    Calls Tryz.prog 280 #[.pointer (some ⟨b, 0, none⟩)] w fun e w' => e = .returned (.tuple #[]) ∧ w = w' := by
  obtain ⟨j, hj, _⟩ := info_of (t := 174) (n := 2) (by kernel_rfl)
  go_enter Tryz.func280, Tryz.ntmps280
  go_wp2_with fail
  rw [Lib.run_neq_ptr_same _ _ Tryz.underlying171 hj]
  go_wp2_with fail
  go_end0
  exact ⟨rfl, rfl⟩
set_option maxRecDepth 100000 in
set_option maxHeartbeats 1000000 in
theorem wstr_calls (B g : Nat) (l s : Sp.Bs) (w : World) (h : BldAt B g l w) (hl : l.length ≤ 1000000) (hs : s.length ≤ 1000000) (hBw : B ≤ w.heap.size) :
    Calls Tryz.prog 248 #[.pointer (some ⟨g, 0, none⟩), .string (strOf s)] w fun e' w' => (∃ n, e' = .returned (.tuple #[.int .i64 n, .nilIface])) ∧ BldAt B g (l ++ s) w' ∧ Below B w w' := by
  have hsz : (strOf s).size = s.length := strOf_size s
  obtain ⟨hB, v, hblk, hown, hne⟩ := h
  obtain ⟨i0, hi, hz0, hz1, hz2⟩ := info_parts (show (Tryz.prog.info? 5).map (fun i => (i.zero, i.size, i.bytes)) = some (some (.int .u8 0), 1, 1) by kernel_rfl)
  have c0 := (hblk.cell 0).trans rfl
  have c1 := (hblk.cell 1).trans rfl
  have C := Lib.hid (copyck_calls g w c0)
  have HK := Lib.hid hblk
  have HS := Lib.hid hsz
  clear hblk hsz
  go_enter Tryz.func248, Tryz.ntmps248
  go_wp2_with (first
    | (go_at_call 280; refine C.out.mono ?_; rintro e' w1 ⟨rfl, rfl⟩)
    | (refine Lib.wpList_append_own_string _ rfl _ _ 172 9 rfl B 5 i0 Tryz.underlying172 Tryz.underlying9 hi hz0 hz1 hz2 _ _ _ rfl hown (strOf s) rfl ?c3 ?c4 ?c5 ?_))
  case c3 => unfold maxLen; rw [HS.out]; omega
  case c4 => rw [HS.out]; omega
  case c5 => exact hBw
  intro v' w2 hown' hgrow _
  have hb2 : isBlk w2 g 174 #[.pointer (some ⟨g, 0, none⟩), v] := (hgrow.block g HK.out.lt (fun e => hne e.symm)).trans HK.out
  have hbl2 : Below B w w2 := (Below.refl _ _).grown hgrow hBw (fun k e => hown.lt k e |>.1)
  obtain ⟨x2, m2, k2, rfl⟩ : ∃ x m k, v' = .slice x m k := own_slice hown'
  have d1 := (hb2.cell 1).trans rfl
  have g1 := hb2.frozen 1
  clear c0 c1
  go_wp2_with fail
  go_ret2
  have HNE : (Value.slice x2 m2 k2).ownBlock ≠ some g := by
    intro e2
    rcases hown'.2 with ⟨hn, _⟩ | ⟨g', cap', cur, hv, _, hgg, _⟩
    · rw [hn] at e2; cases e2
    · rw [hv] at e2
      have e3 : g' = g := by simpa [Value.ownBlock] using e2
      rw [e3, show w2.heap[g]? = _ from hb2] at hgg
      injection hgg with hgg
      injection hgg with _ h5
      exact absurd h5 (by decide)
  refine ⟨⟨_, rfl⟩, ⟨hB, _, hb2.put 1 _ rfl, ?_, HNE⟩, hbl2.setCell hB _⟩
  have e1 : (strOf s).data.toList = s := by simp [strOf]
  rw [List.length_append, List.map_append, ← HS.out]
  rw [strCells_eq, e1] at hown'
  exact own_far hown' HNE _
namespace Sp
theorem joinP_snoc : ∀ (a : List Bs) (b : Bs), a ≠ [] → joinP (a ++ [b]) = joinP a ++ 47 :: b
  | [], _, h => absurd rfl h
  | [x], b, _ => rfl
  | x :: y :: r, b, _ => by
    have ih := joinP_snoc (y :: r) b (by simp)
    show x ++ 47 :: joinP ((y :: r) ++ [b]) = (x ++ 47 :: joinP (y :: r)) ++ 47 :: b
    rw [ih]; simp
theorem joinP_len : ∀ (a : List Bs) (n : Nat), (∀ s ∈ a, s.length ≤ n) → (joinP a).length ≤ a.length * (n + 1)
  | [], _, _ => Nat.zero_le _
  | [x], n, h => by
    have := h x (List.mem_cons_self ..)
    show x.length ≤ _
    simp; omega
  | x :: y :: r, n, h => by
    have ih := joinP_len (y :: r) n (fun s hs => h s (List.mem_cons_of_mem _ hs))
    have := h x (List.mem_cons_self ..)
    show (x ++ 47 :: joinP (y :: r)).length ≤ _
    rw [List.length_append, List.length_cons, List.length_cons, Nat.add_mul]
    omega
end Sp
set_option maxRecDepth 100000 in
set_option maxHeartbeats 4000000 in
theorem join_calls (l : List Sp.Bs) (A : Option Addr) (cap : Nat) (w : World) (h : Nams w A l) (hc : l.length ≤ cap) (hl : l.length ≤ 100) (hs : ∀ s ∈ l, s.length ≤ 100) :
    Calls Tryz.prog 228 #[.slice A l.length cap, .string ⟨#[47]⟩] w fun e w' => e = .returned (.string (strOf (Sp.joinP l))) ∧ Ext w w' := by
  have HN := Lib.hid h
  have HS := Lib.hid hs
  have z1 : (⟨#[47]⟩ : ByteArray).size = 1 := rfl
  clear h hs
  go_enter Tryz.func228, Tryz.ntmps228
  by_cases h0 : l = []
  · subst h0
    have e0 : (([] : List Sp.Bs).length : Int) = 0 := rfl
    go_wp2
    go_ret
    exact ⟨rfl, Ext.refl _⟩
  · have hpos : 0 < l.length := by
      cases l with
      | nil => exact absurd rfl h0
      | cons a r => simp
    obtain ⟨g, o, rfl, hat⟩ := HN.out.at hpos
    have HAT := Lib.hid hat
    have c0 := hat 0 hpos
    rw [Nat.add_zero] at c0
    obtain ⟨x0, hx0⟩ : ∃ x0, x0 = l[0] := ⟨_, rfl⟩
    rw [← hx0] at c0
    have HX0 := Lib.hid hx0
    have HNE := Lib.hid h0
    clear hat h0 hx0
    by_cases h1 : l.length = 1
    · have n1 : ((l.length : Int) == 1) = true := by rw [h1]; rfl
      have n0 : ((l.length : Int) == 0) = false := by rw [h1]; rfl
      have hj : Sp.joinP l = x0 := by
        have hx := HX0.out
        match l, h1 with
        | [a], _ => exact hx.symm
      have HJ := Lib.hid hj
      clear hj h1
      go_wp2
      go_ret
      rw [HJ.out]
      exact ⟨rfl, Ext.refl _⟩
    · have n1 : ((l.length : Int) == 1) = false := beq_eq_false_iff_ne.2 (by omega)
      have n0 : ((l.length : Int) == 0) = false := beq_eq_false_iff_ne.2 (by omega)
      have n2 : 2 ≤ l.length := by omega
      have hdv : ¬ (9223372036854775807 / ((l.length : Int) - 1) ≤ 1) := by
        have e : (2 : Int) * ((l.length : Int) - 1) ≤ 9223372036854775807 := by omega
        have := (Int.le_ediv_iff_mul_le (c := (l.length : Int) - 1) (by omega)).2 e
        omega
      have HC0 := Lib.hid c0
      clear h1 c0
      go_wp2_with fail
      go_loopw [5, 41] (fun v5 v41 wr => ∃ k n : Nat, k ≤ l.length ∧ n ≤ 100 + 100 * k ∧ v5 = .int .i64 n ∧ v41 = .int .i64 k ∧ w = wr) (fun _ v41 _ => l.length - (intOf v41).toNat)
      case atStart => exact ⟨0, l.length - 1, Nat.zero_le _, by omega, by go_num, rfl, rfl⟩
      case round =>
        obtain ⟨k, n, hk, hn, rfl, rfl, rfl⟩ := hrel
        by_cases hlt : k < l.length
        · have ck := HAT.out k hlt
          obtain ⟨x, hx⟩ : ∃ x, x = l[k] := ⟨_, rfl⟩
          rw [← hx] at ck
          have xl : (strOf x).size ≤ 100 := by rw [strOf_size, hx]; exact HS.out _ (List.getElem_mem hlt)
          have b1 : (k : Int) < (l.length : Int) := by omega
          clear hx
          go_wp2
          refine ⟨⟨k + 1, n + (strOf x).size, by omega, by omega, by go_num, by go_num, trivial⟩, by simp [intOf]; omega⟩
        · obtain rfl : k = l.length := by omega
          have n11 : n ≤ 11000 := by omega
          go_wp2_with fail
          refine (Tryz.Builder_Grow_fresh w.heap.size w.heap.size n _ (Nat.le_refl _) (heap_alloc_new w _) (by simp) (by omega)).mono ?_
          rintro e w1 ⟨rfl, h1, hb1⟩
          have X1 := Lib.hid (show BldAt w.heap.size w.heap.size [] w1 from ⟨h1.1, h1.2⟩)
          have B1 := Lib.hid (show Ext w w1 from ((Below.refl w.heap.size w).alloc (Nat.le_refl _) _).trans hb1)
          have c0 := B1.out.cell HC0.out
          have L0 := Lib.hid (show x0.length ≤ 1000000 by rw [HX0.out]; exact Nat.le_trans (HS.out _ (List.getElem_mem hpos)) (by decide))
          clear h1 hb1
          go_wp2_with fail
          refine (wstr_calls w.heap.size w.heap.size [] x0 w1 X1.out (by simp) L0.out B1.out.size).mono ?_
          rintro e w2 ⟨⟨n2, rfl⟩, hx2, hb2⟩
          have X2 := Lib.hid (show BldAt w.heap.size w.heap.size (Sp.joinP (l.take 1)) w2 by
            have e1 : l.take 1 = [x0] := by
              rw [HX0.out]
              cases l with
              | nil => exact absurd rfl HNE.out
              | cons a r => rfl
            rw [e1]; exact hx2)
          have B2 := Lib.hid (show Ext w w2 from Below.trans B1.out hb2)
          clear hx2 hb2 c0
          go_wp2_with fail
          go_loopw [65] (fun v65 wr => ∃ k : Nat, k + 1 ≤ l.length ∧ v65 = .int .i64 k ∧ BldAt w.heap.size w.heap.size (Sp.joinP (l.take (k + 1))) wr ∧ Ext w wr) (fun v65 _ => l.length - 1 - (intOf v65).toNat)
          case atStart => exact ⟨0, hpos, rfl, X2.out, B2.out⟩
          case round =>
            obtain ⟨k, hk, rfl, hbx, hbw⟩ := hrel
            have XB := Lib.hid hbx
            have XW := Lib.hid hbw
            have JL := Lib.hid (show (Sp.joinP (l.take (k + 1))).length ≤ 900000 by
              have := Sp.joinP_len (l.take (k + 1)) 100 (fun s hs => HS.out s (List.mem_of_mem_take hs))
              rw [List.length_take] at this
              have h2 : min (k + 1) l.length * (100 + 1) ≤ 100 * 101 := Nat.mul_le_mul_right _ (by omega)
              omega)
            clear hbx hbw
            by_cases hlt2 : k + 1 < l.length
            · have ck := XW.out.cell (HAT.out (k + 1) hlt2)
              have ck2 : wr.cell? ⟨g, o + 1 + k, none⟩ = some (.string (strOf l[k + 1])) := by rw [show o + 1 + k = o + (k + 1) by omega]; exact ck
              obtain ⟨x, hx⟩ : ∃ x, x = l[k + 1] := ⟨_, rfl⟩
              rw [← hx] at ck2
              have LX := Lib.hid (show x.length ≤ 100 by rw [hx]; exact HS.out _ (List.getElem_mem hlt2))
              have JX := Lib.hid (show Sp.joinP (l.take (k + 1 + 1)) = Sp.joinP (l.take (k + 1)) ++ [47] ++ x by
                rw [List.take_succ_eq_append_getElem hlt2, Sp.joinP_snoc _ _ (by intro e; have := congrArg List.length e; rw [List.length_take, List.length_nil] at this; omega), hx]
                simp)
              have b1 : (k : Int) < (l.length : Int) - 1 := by omega
              clear ck hx
              go_wp2_with fail
              have WS := wstr_calls w.heap.size w.heap.size _ [47] wr XB.out (Nat.le_trans JL.out (by decide)) (by decide) XW.out.size
              rw [show strOf [47] = ⟨#[47]⟩ from rfl] at WS
              refine WS.mono ?_
              rintro e w3 ⟨⟨n3, rfl⟩, hx3, hb3⟩
              have X3 := Lib.hid hx3
              have B3 := Lib.hid (show Ext w w3 from Below.trans XW.out hb3)
              clear hx3 hb3
              go_wp2_with fail
              refine (wstr_calls w.heap.size w.heap.size _ x w3 X3.out (by rw [List.length_append]; have := JL.out; simp; omega) (Nat.le_trans LX.out (by decide)) B3.out.size).mono ?_
              rintro e w4 ⟨⟨n4, rfl⟩, hx4, hb4⟩
              rw [← JX.out] at hx4
              have X4 := Lib.hid hx4
              have B4 := Lib.hid (show Ext w w4 from Below.trans B3.out hb4)
              clear hx4 hb4 WS
              go_wp2
              exact ⟨⟨k + 1, by omega, by go_num, X4.out, B4.out⟩, by simp [intOf]; omega⟩
            · have hke : l.take (k + 1) = l := List.take_of_length_le (by omega)
              have XF := Lib.hid (show BldAt w.heap.size w.heap.size (Sp.joinP l) wr by have := XB.out; rwa [hke] at this)
              have b1 : ¬ (k : Int) < (l.length : Int) - 1 := by omega
              clear hke
              go_wp2_with fail
              refine (Tryz.Builder_String_any w.heap.size w.heap.size (Sp.joinP l) wr (.inr ⟨XF.out.1, by obtain ⟨v, h1, h2, h3⟩ := XF.out.2; exact ⟨v, h1, by rw [Lib.byteCells_length]; exact h2, h3⟩⟩) XW.out.size).mono ?_
              rintro e w5 ⟨rfl, hb5⟩
              have B5 := Lib.hid (show Ext w w5 from Below.trans XW.out hb5)
              clear hb5
              go_wp2
              go_ret
              exact ⟨rfl, B5.out⟩
end Go.Proofs.YtmlfnidckfeebaaGreatDoor
namespace Go.Proofs.YtmlfnidckfeebaaGreatDoor
open Go.RowKit
/-- All may be entered; r: the round. -/
abbrev wideR (r : Option Nat) : Fence := { Fence.wide with round := r }
theorem callsIn_of {r : Option Nat} {n : Nat} {P : Program} {f : FuncId} {args : Array Value} {w : World} {R : Ending → World → Prop} (h : Calls P f args w R) : CallsIn (wideR r) n P f args w R :=
  (callsIn_wide (n := n)).2 h
theorem rowsIn_of {r : Option Nat} {n : Nat} {P : Program} {row : String} {args : Array Value} {w : World} {R : Value → World → Prop} (h : Rows P row args w R) : RowsIn (wideR r) n P row args w R :=
  fun c cs _ => let ⟨v, w', r, s⟩ := h c cs; ⟨v, w', r, stepsIn_wide.2 s⟩
/-- No operation of them defers. -/
def noDefer (ops : Array Oper) : Bool := ops.toList.all fun o => match o.op with | .defer _ => false | _ => true
theorem noDefer_spec {ops : Array Oper} (h : noDefer ops = true) {i : Nat} {o : Oper} (hi : ops[i]? = some o) : ∀ c, o.op ≠ .defer c := by
  intro c e
  have hm : o ∈ ops.toList := List.mem_of_getElem? (i := i) (by simpa using hi)
  have := List.all_eq_true.1 h o hm
  rw [e] at this
  cases this
section
variable {P : Program} {md : Region.Mode} {ops : Array Oper} {S : World → Prop} {r : Option Nat} {n : Nat}
theorem wpOpIn_of_wpOp {Q Q' : Exit → Act → World → Prop} {i : Nat} {K K' : Act → World → Prop} {a : Act} {w : World} (hd : noDefer ops = true) (hQ : ∀ e a w, Q e a w → e = .normal) (hK : ∀ a w, K a w → K' a w) (h : wpOp P ops Q i K a w) : wpOpIn (wideR r) n P ops Q' i K' a w := by
  unfold wpOp at h
  unfold wpOpIn
  cases hi : ops[i]? with
  | none => simp only [hi] at h ⊢; exact hK _ _ h
  | some o =>
    simp only [hi] at h ⊢
    by_cases hw : Region.wanted o (yielded ops a.tmps) = true
    · simp only [hw, if_true] at h ⊢
      rcases h with h | ⟨_, h⟩
      · refine ⟨fun f _ => trivial, ?_⟩
        rw [Oper.semAt_eq _ _ _ (noDefer_spec hd hi)]
        unfold Oper.wp at h
        generalize (execOp a.eval o).run P w = q at h ⊢
        cases q with
        | ok x w2 =>
          cases x <;> simp only [Oper.upon] at h <;> simp only [Oper.uponIn]
          case value u => exact hK _ _ h
          case skip => exact hK _ _ h
          case defer d => exact hK _ _ h
          case enter f args =>
            refine ⟨(fun h => by cases h), callsIn_of (Calls.mono h fun e w3 he => ?_)⟩
            cases e with
            | returned u => exact hK _ _ he
            | panicked c => cases hQ _ _ _ he
            | outgrown => obtain ⟨_, _, h⟩ := he; cases hQ _ _ _ h
          case row row args => exact ⟨(fun h => by cases h), rowsIn_of (Rows.mono h fun u w3 he => hK _ _ he)⟩
        | halt x w2 =>
          cases x <;> simp only [Oper.upon] at h <;> simp only [Oper.uponIn]
          case panic u => cases hQ _ _ _ h
      · obtain ⟨_, _, h⟩ := h; cases hQ _ _ _ h
    · simp only [hw, Bool.false_eq_true, if_false] at h ⊢
      exact ⟨fun f _ => trivial, hK _ _ h⟩
/-- What is so in every order is so within a round too. -/
theorem wpAnyIn_of_wpAny {Q : Exit → Act → World → Prop} (hd : noDefer ops = true) : ∀ (fuel : Nat) (listed : Array Bool) (a : Act) (w : World), wpAny P md ops (goesOn Q) fuel listed a w → wpAnyIn (wideR r) n P md ops Q fuel listed a w
  | 0, _, _, _, h => ⟨h.1, h.2.2⟩
  | fuel + 1, _, _, _, h => ⟨fun h0 => (h.1 h0).2, fun i hi => wpOpIn_of_wpOp hd (fun _ _ _ h => h.1) (fun a w h => wpAnyIn_of_wpAny hd fuel _ a w h) (h.2 i hi)⟩
theorem wpOpIn_of_dOp {i : Nat} {a : Act} {w : World} {K : Act → Prop} {K' : Act → World → Prop} {Q' : Exit → Act → World → Prop} (hd : noDefer ops = true) (hS : S w) (h : ∀ a w, K a → S w → K' a w) (hh : dOp P ops S i K a) : wpOpIn (wideR r) n P ops Q' i K' a w :=
  wpOpIn_of_wpOp (Q := fun e _ _ => e = .normal) hd (fun _ _ _ h => h) (fun _ _ h => h) (wpOp_of_dOp hS h hh)
theorem wpAnyIn_of_headD {k g : Nat} {L : Array Bool → Act → Prop} {Q' : Exit → Act → World → Prop} (hd : noDefer ops = true) (hL : ∀ listed a w, L listed a → S w → wpAnyIn (wideR r) n P md ops Q' g listed a w) :
    ∀ (f : Nat) (listed : Array Bool) (a : Act) (w : World), S w → wpAnyLD P md ops S k L f listed a → wpAnyIn (wideR r) n P md ops Q' (f + g) listed a w
  | 0, listed, a, w, hS, h => by rw [Nat.zero_add]; exact hL _ _ _ h hS
  | f + 1, listed, a, w, hS, h => by
    rw [show f + 1 + g = (f + g) + 1 by omega]
    exact ⟨fun h0 => absurd h0 h.1, fun i hi => wpOpIn_of_dOp hd hS (fun a' w' h' hS' => wpAnyIn_of_headD hd hL f _ a' w' hS' h') (h.2 i hi).2⟩
theorem wpAnyIn_of_seq {F : Fence} {Q' : Exit → Act → World → Prop} : ∀ (l : List Oper) (k : Nat) (listed : Array Bool) (a : Act) (w : World), (∀ j, l[j]? = ops[k + j]?) →
    Region.seqB md ops l.length k listed = true → wpListIn F n P ops Q' l a w → wpAnyIn F n P md ops Q' l.length listed a w
  | [], _, _, _, _, _, hB, h => ⟨by simpa [Region.seqB] using hB, h⟩
  | o :: l, k, listed, a, w, hl, hB, h => by
    have h0 : ops[k]? = some o := by simpa using (hl 0).symm
    simp only [List.length_cons, Region.seqB, Bool.and_eq_true, decide_eq_true_eq] at hB
    refine ⟨fun h1 => (by rw [hB.1] at h1; cases h1), fun i hi => ?_⟩
    rw [hB.1] at hi
    have hik : i = k := by simpa using hi
    subst hik
    have hw : wpOpIn F n P ops Q' i (wpListIn F n P ops Q' l) a w := by unfold wpOpIn; simp only [h0]; exact h
    exact wpOpIn_mono (fun a' w' h' => wpAnyIn_of_seq l (i + 1) _ a' w' (fun j => by have := hl (j + 1); simpa [Nat.add_assoc, Nat.add_comm 1 j] using this) hB.2 h') hw
/-- As wp_region_det_tail. -/
theorem wpIn_region_det_tail (S : World → Prop) {id : Nat} {Q : Exit → Act → World → Prop} {a : Act} {w : World} {l : List Oper} (m : Nat) (hm : P.follows .mixedOrders = true) (hB : Region.lexTailB .any l.toArray m = true) (hd : noDefer l.toArray = true)
    (hS : S w.drew) (h : wpDet P l.toArray S (fun a' => ∀ w', S w' → wpListIn (wideR r) n P l.toArray Q (l.drop m) a' w') (l.take m) a) : (Code.region id l.toArray true).wpIn (wideR r) n P Q a w := by
  simp only [Region.lexTailB, Bool.and_eq_true, decide_eq_true_eq] at hB
  obtain ⟨⟨⟨⟨hsel, hn⟩, hs⟩, hc⟩, hlex⟩ := hB
  have hn' : m < l.length := by simpa using hn
  have htl : (l.take m).length = m := by simp; omega
  have hdl : (l.drop m).length = l.toArray.size - m := by simp
  have inv0 : HeadInv .any l.toArray m (Array.replicate l.toArray.size false) :=
    ⟨by simp, fun j oj _ hl => (by rw [getD_replicate_false] at hl; cases hl), fun t _ ht => getD_in (by simpa using ht) (getD_replicate_false _ _)⟩
  have H := wpAnyLD_lex (S := S) (md := .any) (B := Region.seqB .any l.toArray (l.toArray.size - m) m) (fun listed h => seqB_ready h) hsel (fun listed inv i hi hun t ht => tail_waits hs hc hn inv _ i rfl hi hun t ht) (l.take m) 0 _ a (fun j hj => by
    have hj' : j < m := by rw [htl] at hj; exact hj
    simp [hj']) (by simpa using htl) inv0 (by rw [htl]; have := headB_eq .any l.toArray (l.toArray.size - m) m 0 (Array.replicate l.toArray.size false); rw [Nat.zero_add] at this; rw [this]; exact hlex) h
  refine wpIn_region_any hm ?_
  have := wpAnyIn_of_headD (S := S) (Q' := Q) (r := r) (n := n) (g := l.toArray.size - m) hd (fun listed a' w' hL hS' => by
    have := wpAnyIn_of_seq (F := wideR r) (n := n) (md := .any) (Q' := Q) (l.drop m) m listed a' w' (fun j => by simp [List.getElem?_drop]) (by rw [hdl]; exact hL.1) (hL.2 w' hS')
    rwa [hdl] at this) _ _ _ _ hS H
  rw [htl, show m + (l.toArray.size - m) = l.toArray.size by omega] at this
  exact this
/-- As wp_region_seqT. -/
theorem wpIn_region_seqT (T : World → Prop) {id : Nat} {Q : Exit → Act → World → Prop} {a : Act} {w : World} {l : List Oper} (p m : Nat) (hm : P.follows .mixedOrders = true) (hB : lexSeqB .any l.toArray p m = true) (hd : noDefer l.toArray = true)
    (hT : T w.drew) (h : wpFloatT P l.toArray T (fun a => wpSeqT P l.toArray T Q (m - p) (l.drop p) a w.drew) (l.take p) a) : (Code.region id l.toArray true).wpIn (wideR r) n P Q a w := by
  refine wpIn_region_any hm (wpAnyIn_of_wpAny hd _ _ _ _ ?_)
  exact wpAny_region_seqT T p m hB hT h
end
end Go.Proofs.YtmlfnidckfeebaaGreatDoor
namespace Go.Proofs.YtmlfnidckfeebaaGreatDoor
open Go.RowKit
theorem KB.wide {T : TypeId → Prop} {B : Nat} {a b : World} (h : KB noT B a b) : KB T B a b := ⟨h.below, fun i cs t f hi _ => h.row i cs t f hi (fun h => h)⟩
theorem range_keep {n : Nat} {P : Program} {α : Type} (T : TypeId → Prop) (E : World → Prop) {B : Nat} {g : Operand} {ps : Array Tmp} {assign body : Code} {Q : Exit → Act → World → Prop} {a : Act} {w : World}
    (h1 : 1 ≤ n) (hB : B ≤ w.heap.size) {gf : Nat} {lb : Array Value} (hg : a.eval g = .func (.func gf) #[] lb) (eg : ∀ args w, (callFunc gf args).run P w = .ok (.enter gf args) w)
    (encs : α → Array Value) (xs : List α) (hps : ∀ x, (encs x).size = ps.size)
    (hit : ∀ (l : Nat) (J : Nat → World → Prop) (W : World), Below w.heap.size w W → (∀ i W W', J i W → Ext W W' → J i W') → (∀ i W, J i W → E W) →
      (∀ i (hi : i < xs.length) (W1 : World) (m : Nat), J i W1 → YieldAt Fence.wide m P l (encs xs[i]) W1 fun e W' => e = .returned (.bool true) ∧ J (i + 1) W' ∧ KB T B W1 W') → J 0 W →
      CallsIn Fence.wide (n - 1) P gf (#[.func (.yield l) #[] #[]] ++ lb) W fun e W' => (∃ v, e = .returned v) ∧ J xs.length W')
    (I : Nat → World → Prop) (hI : ∀ i W W', I i W → KB noT B W W' → I i W') (hE : ∀ i W, I i W → E W) (h0 : I 0 w) (a₁ : α → Act)
    (hassign : ∀ (l m : Nat) (x : α) (W : World) (K : Act → World → Prop), K (a₁ x) W →
      assign.wpIn (Fence.wide.inRound l) m P (Exit.then K (fun _ _ _ => False)) { tmps := (ps.zip (encs x)).foldl (fun t (p, v) => t.setIfInBounds p v) a.tmps, defers := [] } W)
    (hbody : ∀ (l m i : Nat) (hi : i < xs.length) (W : World), I i W → body.wpIn (Fence.wide.inRound l) m P (fun e _ W' => e = .normal ∧ KeepsOthers W W' ∧ KB T B W W' ∧ I (i + 1) W') (a₁ xs[i]) W)
    (hdone : ∀ (D : Nat) (W : World), w.heap.size ≤ D → I xs.length W → W.heap[D]? = some (.deferred (some [])) → Q .normal { a with defers := { target := .collected D, args := #[] } :: a.defers } W) :
    (Code.rangeFunc g ps assign body).wpIn Fence.wide n P Q a w := by
  refine wpIn_rangeFunc fun fn hfn => ?_
  obtain ⟨rec, hrec⟩ : ∃ rec : LoopState → Option Code → Loop, rec = fun st pe => { state := st, pending := pe, fn, tmps := a.tmps, params := ps, assign, body, defers := w.heap.size } := ⟨_, rfl⟩
  obtain ⟨D, hD⟩ : ∃ D, D = w.heap.size := ⟨_, rfl⟩
  obtain ⟨L, hL⟩ : ∃ L, L = w.heap.size + 1 := ⟨_, rfl⟩
  obtain ⟨W1, hW1⟩ : ∃ W1, (w.alloc (.deferred (some []))).alloc (.loop (rec .ready none)) = W1 := ⟨_, rfl⟩
  have hs0 : (w.alloc (.deferred (some []))).heap.size = L := by rw [hL]; simp
  have hl1 : W1.heap[L]? = some (.loop (rec .ready none)) := by rw [← hW1, ← hs0]; exact World.alloc_heap_new _ _
  have hd1 : W1.heap[D]? = some (.deferred (some [])) := by
    rw [← hW1, hD]; exact (Below.heap_alloc _ _ _ (by simp)).trans (World.alloc_heap_new w _)
  have hb1 : Below w.heap.size w W1 := by rw [← hW1]; exact ((Below.refl _ w).alloc (Nat.le_refl _) _).alloc (by simp) _
  have hi1 : I 0 W1 := hI 0 _ _ h0 (KB.ext hB hb1)
  have hBL : B ≤ L := by omega
  refine ⟨L, [{ target := .collected w.heap.size, args := #[] }], W1, { target := .fn (.func gf) lb, args := #[.func (.yield L) #[] #[]] }, W1, gf, #[.func (.yield L) #[] #[]] ++ lb, W1, ?_, ?_, ?_, ?_, fun _ => h1, ?_⟩
  · rw [← hW1, hrec, hL]; exact run_enterLoop_outer _ _ _ _ _
  · simp only [resolve, hg]
    simp [go_sem]
  · intro f' hf'; exact trivial
  · simp [invoke, go_sem, eg]
  · refine (hit L (fun i W => I i W ∧ W.heap[L]? = some (.loop (rec .ready none)) ∧ W.heap[D]? = some (.deferred (some []))) W1 hb1
      (fun i W W' h e => ?_) (fun i W h => hE i W h.1) ?_ ⟨hi1, hl1, hd1⟩).mono ?_
    · have hlt : L < W.heap.size := (Array.getElem?_eq_some_iff.1 h.2.1).1
      exact ⟨hI i W W' h.1 (KB.ext (by omega) e), (e.block L hlt).trans h.2.1, (e.block D (by omega)).trans h.2.2⟩
    · rintro i hi W m ⟨hiW, hl, hd⟩
      have hlt : L < W.heap.size := (Array.getElem?_eq_some_iff.1 hl).1
      have hy := run_yield (P := P) (args := encs xs[i]) hl (by rw [hrec]; exact hps xs[i])
      rw [hrec] at hy
      refine ⟨fn, _, assign, body, hy, roundIn_of_wpIn hfn (hassign _ _ xs[i] W _ ⟨_, run_beginRound hl (by rw [hrec]), ?_⟩)⟩
      obtain ⟨busy, hbusy⟩ : ∃ busy : Loop, busy = { rec .ready none with state := .busy } := ⟨_, rfl⟩
      rw [← hbusy]
      have hl2 : (W.putObj L (.loop busy)).heap[L]? = some (.loop busy) := World.putObj_heap_same hlt
      have hd2 : (W.putObj L (.loop busy)).heap[D]? = some (.deferred (some [])) := (World.putObj_heap_other (by omega)).trans hd
      have k2 : ∀ T, KB T B W (W.putObj L (.loop busy)) := fun T => KB.put hBL hl _
      refine wpIn_mono (hbody _ _ i hi _ (hI i _ _ hiW (k2 _))) ?_
      rintro e a3 W3 ⟨rfl, hk3, hs3, hi3⟩
      have hl3 := hk3.same _ _ hl2 rfl
      have hd3 := hk3.same _ _ hd2 rfl
      have hr := run_endRound (P := P) (none : Option Code) hl3
      rw [hbusy, hrec] at hr
      refine ⟨_, _, hr, rfl, ⟨hI _ _ _ hi3 (KB.put hBL hl3 _), ?_, (World.putObj_heap_other (by omega)).trans hd3⟩, ?_⟩
      · rw [hrec]; exact World.putObj_heap_same (Array.getElem?_eq_some_iff.1 hl3).1
      · exact ((k2 T).trans hs3).trans (KB.put hBL hl3 _)
    · rintro e W2 ⟨⟨v, rfl⟩, hi, hl, hd⟩
      refine ⟨none, _, by have := run_endLoop (P := P) hl (by rw [hrec]; simp); rw [hrec] at this; exact this, ?_⟩
      rw [← hD]
      exact hdone D _ (by omega) (hI _ _ _ hi (KB.put hBL hl _)) ((World.putObj_heap_other (by omega)).trans hd)
end Go.Proofs.YtmlfnidckfeebaaGreatDoor
namespace Go.Proofs.YtmlfnidckfeebaaGreatDoor
open Go.RowKit Go.Shelf
/-- .. below a name; below some. -/
def preL (n : Sp.Bs) (x : LE) : LE := (x.1, x.2.1, (n :: x.2.2.1, x.2.2.2))
def catL (d : List Sp.Bs) (x : LE) : LE := (x.1, x.2.1, (d ++ x.2.2.1, x.2.2.2))
theorem cat_pre (d : List Sp.Bs) (n : Sp.Bs) (x : LE) : catL d (preL n x) = catL (d ++ [n]) x := by simp [catL, preL]
def hereL (A : Option Addr) (c : Nat) (t : Sp.T) : List LE := if t.leaf = [] then [] else [(A, c, ([], t.leaf))]
def belowL : List (Sp.Bs × Sp.T) → List (List LE) → List LE
  | k :: r, m :: ms => m.map (preL k.1) ++ belowL r ms
  | _, _ => []
/-- What the tree at g lists. -/
inductive ListAt (w : World) : Nat → Sp.T → List LE → Prop where
  | mk (g : Nat) (t : Sp.T) (A B C : Option Addr) (c c' c'' : Nat) (gs : List Nat) (ms : List (List LE)) (hp : PreAt w g t A B C c c' c'' gs (innerC A c B c' C c'' t)) (hm : ms.length = t.kids.length)
    (hK : ∀ i (h : i < t.kids.length), ListAt w (gs.getD i 0) (t.kids[i]).2 (ms.getD i [])) : ListAt w g t (hereL A c t ++ belowL t.kids ms)
theorem list_of {w : World} {g : Nat} {t : Sp.T} (h : InnerAt w g t) : ∃ m, ListAt w g t m := by
  induction h with
  | mk g t A B C c c' c'' gs hx hV hN hl hC hK ih =>
    obtain ⟨f, hf⟩ := Go.Deep.choose_lt (n := t.kids.length) (p := fun i (m : List LE) => ∀ (h : i < t.kids.length), ListAt w (gs.getD i 0) (t.kids[i]).2 m) (fun i hi => by
      obtain ⟨m, hm⟩ := ih i hi
      exact ⟨m, fun _ => hm⟩)
    refine ⟨_, .mk g t A B C c c' c'' gs ((List.range t.kids.length).map f) ⟨hx, innerC_size .., rfl, rfl, rfl, hV, hN, hl, hC, hK⟩ (by simp) fun i h => ?_⟩
    have := hf i h h
    simpa [List.getD_eq_getElem?_getD, h] using this
theorem below_entries : ∀ (k : List (Sp.Bs × Sp.T)) (ms : List (List LE)), ms.length = k.length → (∀ i (h : i < k.length), (ms.getD i []).map (·.2.2) = Sp.entries (k[i]).2) → (belowL k ms).map (·.2.2) = Sp.entriesL k
  | [], [], _, _ => rfl
  | (n, t) :: r, m :: ms, hl, h => by
    have h0 := h 0 (by simp)
    have ih := below_entries r ms (by simpa using hl) (fun i hi => by have := h (i + 1) (by simpa using hi); simpa using this)
    rw [belowL, Sp.entriesL, List.map_append, ih, List.map_map]
    congr 1
    simp only [List.getD_cons_zero, List.getElem_cons_zero] at h0
    rw [← h0, List.map_map]
    rfl
theorem list_entries {w : World} {g : Nat} {t : Sp.T} {m : List LE} (h : ListAt w g t m) : m.map (·.2.2) = Sp.entries t := by
  induction h with
  | mk g t A B C c c' c'' gs ms hp hm hK ih =>
    rw [List.map_append, below_entries t.kids ms hm ih]
    cases t with
    | mk leaf kids =>
      rw [Sp.entries]
      congr 1
      unfold hereL
      by_cases h : leaf = []
      · rw [if_pos h, if_pos (show (Sp.T.mk leaf kids).leaf = [] from h)]; rfl
      · rw [if_neg h, if_neg (show ¬ (Sp.T.mk leaf kids).leaf = [] from h)]; rfl
theorem mem_below : ∀ (k : List (Sp.Bs × Sp.T)) (ms : List (List LE)) (x : LE), ms.length = k.length → x ∈ belowL k ms → ∃ i, ∃ h : i < k.length, ∃ y ∈ ms.getD i [], x = preL (k[i]).1 y
  | [], [], x, _, h => by cases h
  | kt :: r, m :: ms, x, hl, h => by
    rw [belowL] at h
    rcases List.mem_append.1 h with h | h
    · obtain ⟨y, hy, rfl⟩ := List.mem_map.1 h
      exact ⟨0, by simp, y, by simpa using hy, rfl⟩
    · obtain ⟨i, hi, y, hy, rfl⟩ := mem_below r ms x (by simpa using hl) h
      exact ⟨i + 1, by simpa using hi, y, by simpa using hy, by simp⟩
theorem list_vers {w : World} {g : Nat} {t : Sp.T} {m : List LE} (h : ListAt w g t m) : ∀ x ∈ m, Vers w x.1 x.2.2.2 := by
  induction h with
  | mk g t A B C c c' c'' gs ms hp hm hK ih =>
    intro x hx
    rcases List.mem_append.1 hx with hx | hx
    · unfold hereL at hx
      split at hx
      · cases hx
      · obtain rfl := List.mem_singleton.1 hx
        exact hp.V
    · obtain ⟨i, hi, y, hy, rfl⟩ := mem_below _ _ _ hm hx
      exact ih i hi y hy
/-- Where the entries of each kid begin. -/
def offL : List (List LE) → Nat → Nat
  | m :: ms, k + 1 => m.length + offL ms k
  | _, _ => 0
theorem off_succ : ∀ (ms : List (List LE)) (k : Nat), k < ms.length → offL ms (k + 1) = offL ms k + (ms.getD k []).length
  | m :: ms, 0, _ => by
    cases ms <;> simp [offL]
  | m :: ms, k + 1, h => by
    have := off_succ ms k (by simpa using h)
    rw [offL, this, offL]
    simp
    omega
theorem below_len : ∀ (k : List (Sp.Bs × Sp.T)) (ms : List (List LE)), ms.length = k.length → (belowL k ms).length = offL ms ms.length
  | [], [], _ => rfl
  | kt :: r, m :: ms, h => by
    rw [belowL, List.length_append, List.length_map, below_len r ms (by simpa using h), List.length_cons, offL]
theorem below_at : ∀ (k : List (Sp.Bs × Sp.T)) (ms : List (List LE)) (i : Nat) (h : i < k.length), ms.length = k.length → ∀ j (hj : j < (ms.getD i []).length), (belowL k ms)[offL ms i + j]? = some (preL (k[i]).1 (ms.getD i [])[j])
  | kt :: r, m :: ms, 0, _, _, j, hj => by
    have hj' : j < m.length := by simpa using hj
    rw [belowL, show offL (m :: ms) 0 = 0 from rfl, Nat.zero_add, List.getElem?_append_left (by simpa using hj'), List.getElem?_map, List.getElem?_eq_getElem hj']
    simp
  | kt :: r, m :: ms, i + 1, h, hl, j, hj => by
    have ih := below_at r ms i (by simpa using h) (by simpa using hl) j (by simpa using hj)
    rw [belowL, offL, List.getElem?_append_right (by simp; omega), List.length_map, show m.length + offL ms i + j - m.length = offL ms i + j by omega, ih]
    simp
theorem DirAt.read {W : World} {v : Value} {d : List Sp.Bs} (h : DirAt W v d) : ∃ A cap, v = .slice A d.length cap ∧ Nams W A d ∧ d.length ≤ cap := by
  obtain ⟨b, h⟩ := h
  obtain ⟨A, cap, rfl, hc⟩ := own_read h
  refine ⟨A, cap, rfl, hc, ?_⟩
  rcases h.2 with ⟨hv, h0⟩ | ⟨g, cap', cur, hv, _, _, hn, _⟩
  · omega
  · injection hv with _ _ h3; omega
end Go.Proofs.YtmlfnidckfeebaaGreatDoor
