/- Walks: strings.Join of a path's names. A law for a region that draws its order: first operations that tell one value in every world of a kind T, and may come late; then a forced sequence, the first so many of which stay in T. -/
import Derived.Test.YteiblfcehlibpaaGreatDoorGF22
import Derived.Test.YteiblfcehlibpaaGreatDoorGF30
import Derived.Test.YteiblfcehlibpaaGreatDoorGF07
import Derived.Test.YteiblfcehlibpaaGreatDoorShelf
import Derived.Deep.DeepCutAuto
import Derived.Test.YteiblfcehlibpaaGreatDoorGF25
namespace Go.Proofs.YteiblfcehlibpaaGreatDoor
open Go.RowKit Go.Shelf
attribute [local go_sem] yUpon strOf_toList
set_option maxRecDepth 100000 in
set_option maxHeartbeats 1000000 in
theorem copyck_calls (b : Nat) (w : World) (h0 : w.cell? ⟨b, 0, none⟩ = some (.pointer (some ⟨b, 0, none⟩))) :
    Calls Tryz.prog 208 #[.pointer (some ⟨b, 0, none⟩)] w fun e w' => e = .returned (.tuple #[]) ∧ w = w' := by
  obtain ⟨j, hj, _⟩ := info_of (t := 185) (n := 2) (by kernel_rfl)
  go_enter Tryz.func208, Tryz.ntmps208
  go_wp2_with fail
  rw [Lib.run_neq_ptr_same _ _ Tryz.underlying182 hj]
  go_wp2_with fail
  go_end0
  exact ⟨rfl, rfl⟩
/-- A builder that got room: at g, with these bytes. -/
def BldAt (B g : Nat) (l : Sp.Bs) (w : World) : Prop :=
  B ≤ g ∧ ∃ v, isBlk w g 185 #[.pointer (some ⟨g, 0, none⟩), v] ∧ w.ownsRow B 5 1 v l.length (l.map byteV) ∧ v.ownBlock ≠ some g
theorem BldAt.drew {B g : Nat} {l : Sp.Bs} {w : World} (h : BldAt B g l w) : BldAt B g l w.drew := h
set_option maxRecDepth 100000 in
set_option maxHeartbeats 1000000 in
theorem wstr_calls (B g : Nat) (l s : Sp.Bs) (w : World) (h : BldAt B g l w) (hl : l.length ≤ 1000000) (hs : s.length ≤ 1000000) (hBw : B ≤ w.heap.size) :
    Calls Tryz.prog 176 #[.pointer (some ⟨g, 0, none⟩), .string (strOf s)] w fun e' w' => (∃ n, e' = .returned (.tuple #[.int .i64 n, .nilIface])) ∧ BldAt B g (l ++ s) w' ∧ Below B w w' := by
  have hsz : (strOf s).size = s.length := strOf_size s
  obtain ⟨hB, v, hblk, hown, hne⟩ := h
  obtain ⟨i0, hi, hz0, hz1, hz2⟩ := info_parts (show (Tryz.prog.info? 5).map (fun i => (i.zero, i.size, i.bytes)) = some (some (.int .u8 0), 1, 1) by kernel_rfl)
  have c0 := (hblk.cell 0).trans rfl
  have c1 := (hblk.cell 1).trans rfl
  have C := Lib.hid (copyck_calls g w c0)
  have HK := Lib.hid hblk
  have HS := Lib.hid hsz
  clear hblk hsz
  go_enter Tryz.func176, Tryz.ntmps176
  go_wp2_with (first
    | (go_at_call 208; refine C.out.mono ?_; rintro e' w1 ⟨rfl, rfl⟩)
    | (refine Lib.wpList_append_own_string _ rfl _ _ 183 9 rfl B 5 i0 Tryz.underlying183 Tryz.underlying9 hi hz0 hz1 hz2 _ _ _ rfl hown (strOf s) rfl ?c3 ?c4 ?c5 ?_))
  case c3 => unfold maxLen; rw [HS.out]; omega
  case c4 => rw [HS.out]; omega
  case c5 => exact hBw
  intro v' w2 hown' hgrow _
  have hb2 : isBlk w2 g 185 #[.pointer (some ⟨g, 0, none⟩), v] := (hgrow.block g HK.out.lt (fun e => hne e.symm)).trans HK.out
  have hbl2 : Below B w w2 := (Below.refl _ _).grown hgrow hBw (fun k e => hown.lt k e |>.1)
  obtain ⟨x2, m2, k2, rfl⟩ : ∃ x m k, v' = .slice x m k := own_slice hown'
  have d1 := (hb2.cell 1).trans rfl
  have g1 := hb2.frozen 1
  clear c0 c1
  go_wp2_with fail
  go_ret2
  have HNE : (Value.slice x2 m2 k2).ownBlock ≠ some g := by
    intro e2
    rcases hown'.2 with ⟨hn, _⟩ | ⟨g', cap', cur, hv, _, hgg, _⟩
    · rw [hn] at e2; cases e2
    · rw [hv] at e2
      have e3 : g' = g := by simpa [Value.ownBlock] using e2
      rw [e3, show w2.heap[g]? = _ from hb2] at hgg
      injection hgg with hgg
      injection hgg with _ h5
      exact absurd h5 (by decide)
  refine ⟨⟨_, rfl⟩, ⟨hB, _, hb2.put 1 _ rfl, ?_, HNE⟩, hbl2.setCell hB _⟩
  have e1 : (strOf s).data.toList = s := by simp [strOf]
  rw [List.length_append, List.map_append, ← HS.out]
  rw [strCells_eq, e1] at hown'
  exact own_far hown' HNE _
namespace Sp
theorem joinP_snoc : ∀ (a : List Bs) (b : Bs), a ≠ [] → joinP (a ++ [b]) = joinP a ++ 47 :: b
  | [], _, h => absurd rfl h
  | [x], b, _ => rfl
  | x :: y :: r, b, _ => by
    have ih := joinP_snoc (y :: r) b (by simp)
    show x ++ 47 :: joinP ((y :: r) ++ [b]) = (x ++ 47 :: joinP (y :: r)) ++ 47 :: b
    rw [ih]; simp
theorem joinP_len : ∀ (a : List Bs) (n : Nat), (∀ s ∈ a, s.length ≤ n) → (joinP a).length ≤ a.length * (n + 1)
  | [], _, _ => Nat.zero_le _
  | [x], n, h => by
    have := h x (List.mem_cons_self ..)
    show x.length ≤ _
    simp; omega
  | x :: y :: r, n, h => by
    have ih := joinP_len (y :: r) n (fun s hs => h s (List.mem_cons_of_mem _ hs))
    have := h x (List.mem_cons_self ..)
    show (x ++ 47 :: joinP (y :: r)).length ≤ _
    rw [List.length_append, List.length_cons, List.length_cons, Nat.add_mul]
    omega
end Sp
set_option maxRecDepth 100000 in
set_option maxHeartbeats 4000000 in
theorem join_calls (l : List Sp.Bs) (A : Option Addr) (cap : Nat) (w : World) (h : Nams w A l) (hc : l.length ≤ cap) (hl : l.length ≤ 100) (hs : ∀ s ∈ l, s.length ≤ 100) :
    Calls Tryz.prog 139 #[.slice A l.length cap, .string ⟨#[47]⟩] w fun e w' => e = .returned (.string (strOf (Sp.joinP l))) ∧ Ext w w' := by
  have HN := Lib.hid h
  have HS := Lib.hid hs
  have z1 : (⟨#[47]⟩ : ByteArray).size = 1 := rfl
  clear h hs
  go_enter Tryz.func139, Tryz.ntmps139
  by_cases h0 : l = []
  · subst h0
    have e0 : (([] : List Sp.Bs).length : Int) = 0 := rfl
    go_wp2
    go_ret
    exact ⟨rfl, Ext.refl _⟩
  · have hpos : 0 < l.length := by
      cases l with
      | nil => exact absurd rfl h0
      | cons a r => simp
    obtain ⟨g, o, rfl, hat⟩ := HN.out.at hpos
    have HAT := Lib.hid hat
    have c0 := hat 0 hpos
    rw [Nat.add_zero] at c0
    obtain ⟨x0, hx0⟩ : ∃ x0, x0 = l[0] := ⟨_, rfl⟩
    rw [← hx0] at c0
    have HX0 := Lib.hid hx0
    have HNE := Lib.hid h0
    clear hat h0 hx0
    by_cases h1 : l.length = 1
    · have n1 : ((l.length : Int) == 1) = true := by rw [h1]; rfl
      have n0 : ((l.length : Int) == 0) = false := by rw [h1]; rfl
      have hj : Sp.joinP l = x0 := by
        have hx := HX0.out
        match l, h1 with
        | [a], _ => exact hx.symm
      have HJ := Lib.hid hj
      clear hj h1
      go_wp2
      go_ret
      rw [HJ.out]
      exact ⟨rfl, Ext.refl _⟩
    · have n1 : ((l.length : Int) == 1) = false := beq_eq_false_iff_ne.2 (by omega)
      have n0 : ((l.length : Int) == 0) = false := beq_eq_false_iff_ne.2 (by omega)
      have n2 : 2 ≤ l.length := by omega
      have hdv : ¬ (9223372036854775807 / ((l.length : Int) - 1) ≤ 1) := by
        have e : (2 : Int) * ((l.length : Int) - 1) ≤ 9223372036854775807 := by omega
        have := (Int.le_ediv_iff_mul_le (c := (l.length : Int) - 1) (by omega)).2 e
        omega
      have HC0 := Lib.hid c0
      clear h1 c0
      go_wp2_with fail
      go_loopw [5, 41] (fun v5 v41 wr => ∃ k n : Nat, k ≤ l.length ∧ n ≤ 100 + 100 * k ∧ v5 = .int .i64 n ∧ v41 = .int .i64 k ∧ w = wr) (fun _ v41 _ => l.length - (intOf v41).toNat)
      case atStart => exact ⟨0, l.length - 1, Nat.zero_le _, by omega, by go_num, rfl, rfl⟩
      case round =>
        obtain ⟨k, n, hk, hn, rfl, rfl, rfl⟩ := hrel
        by_cases hlt : k < l.length
        · have ck := HAT.out k hlt
          obtain ⟨x, hx⟩ : ∃ x, x = l[k] := ⟨_, rfl⟩
          rw [← hx] at ck
          have xl : (strOf x).size ≤ 100 := by rw [strOf_size, hx]; exact HS.out _ (List.getElem_mem hlt)
          have b1 : (k : Int) < (l.length : Int) := by omega
          clear hx
          go_wp2
          refine ⟨⟨k + 1, n + (strOf x).size, by omega, by omega, by go_num, by go_num, trivial⟩, by simp [intOf]; omega⟩
        · obtain rfl : k = l.length := by omega
          have n11 : n ≤ 11000 := by omega
          go_wp2_with fail
          refine (Tryz.Builder_Grow_fresh w.heap.size w.heap.size n _ (Nat.le_refl _) (heap_alloc_new w _) (by simp) (by omega)).mono ?_
          rintro e w1 ⟨rfl, h1, hb1⟩
          have X1 := Lib.hid (show BldAt w.heap.size w.heap.size [] w1 from ⟨h1.1, h1.2⟩)
          have B1 := Lib.hid (show Ext w w1 from ((Below.refl w.heap.size w).alloc (Nat.le_refl _) _).trans hb1)
          have c0 := B1.out.cell HC0.out
          have L0 := Lib.hid (show x0.length ≤ 1000000 by rw [HX0.out]; exact Nat.le_trans (HS.out _ (List.getElem_mem hpos)) (by decide))
          clear h1 hb1
          go_wp2_with fail
          refine (wstr_calls w.heap.size w.heap.size [] x0 w1 X1.out (by simp) L0.out B1.out.size).mono ?_
          rintro e w2 ⟨⟨n2, rfl⟩, hx2, hb2⟩
          have X2 := Lib.hid (show BldAt w.heap.size w.heap.size (Sp.joinP (l.take 1)) w2 by
            have e1 : l.take 1 = [x0] := by
              rw [HX0.out]
              cases l with
              | nil => exact absurd rfl HNE.out
              | cons a r => rfl
            rw [e1]; exact hx2)
          have B2 := Lib.hid (show Ext w w2 from Below.trans B1.out hb2)
          clear hx2 hb2 c0
          go_wp2_with fail
          go_loopw [65] (fun v65 wr => ∃ k : Nat, k + 1 ≤ l.length ∧ v65 = .int .i64 k ∧ BldAt w.heap.size w.heap.size (Sp.joinP (l.take (k + 1))) wr ∧ Ext w wr) (fun v65 _ => l.length - 1 - (intOf v65).toNat)
          case atStart => exact ⟨0, hpos, rfl, X2.out, B2.out⟩
          case round =>
            obtain ⟨k, hk, rfl, hbx, hbw⟩ := hrel
            have XB := Lib.hid hbx
            have XW := Lib.hid hbw
            have JL := Lib.hid (show (Sp.joinP (l.take (k + 1))).length ≤ 900000 by
              have := Sp.joinP_len (l.take (k + 1)) 100 (fun s hs => HS.out s (List.mem_of_mem_take hs))
              rw [List.length_take] at this
              have h2 : min (k + 1) l.length * (100 + 1) ≤ 100 * 101 := Nat.mul_le_mul_right _ (by omega)
              omega)
            clear hbx hbw
            by_cases hlt2 : k + 1 < l.length
            · have ck := XW.out.cell (HAT.out (k + 1) hlt2)
              have ck2 : wr.cell? ⟨g, o + 1 + k, none⟩ = some (.string (strOf l[k + 1])) := by rw [show o + 1 + k = o + (k + 1) by omega]; exact ck
              obtain ⟨x, hx⟩ : ∃ x, x = l[k + 1] := ⟨_, rfl⟩
              rw [← hx] at ck2
              have LX := Lib.hid (show x.length ≤ 100 by rw [hx]; exact HS.out _ (List.getElem_mem hlt2))
              have JX := Lib.hid (show Sp.joinP (l.take (k + 1 + 1)) = Sp.joinP (l.take (k + 1)) ++ [47] ++ x by
                rw [List.take_succ_eq_append_getElem hlt2, Sp.joinP_snoc _ _ (by intro e; have := congrArg List.length e; rw [List.length_take, List.length_nil] at this; omega), hx]
                simp)
              have b1 : (k : Int) < (l.length : Int) - 1 := by omega
              clear ck hx
              go_wp2_with fail
              have WS := wstr_calls w.heap.size w.heap.size _ [47] wr XB.out (Nat.le_trans JL.out (by decide)) (by decide) XW.out.size
              rw [show strOf [47] = ⟨#[47]⟩ from rfl] at WS
              refine WS.mono ?_
              rintro e w3 ⟨⟨n3, rfl⟩, hx3, hb3⟩
              have X3 := Lib.hid hx3
              have B3 := Lib.hid (show Ext w w3 from Below.trans XW.out hb3)
              clear hx3 hb3
              go_wp2_with fail
              refine (wstr_calls w.heap.size w.heap.size _ x w3 X3.out (by rw [List.length_append]; have := JL.out; simp; omega) (Nat.le_trans LX.out (by decide)) B3.out.size).mono ?_
              rintro e w4 ⟨⟨n4, rfl⟩, hx4, hb4⟩
              rw [← JX.out] at hx4
              have X4 := Lib.hid hx4
              have B4 := Lib.hid (show Ext w w4 from Below.trans B3.out hb4)
              clear hx4 hb4 WS
              go_wp2
              exact ⟨⟨k + 1, by omega, by go_num, X4.out, B4.out⟩, by simp [intOf]; omega⟩
            · have hke : l.take (k + 1) = l := List.take_of_length_le (by omega)
              have XF := Lib.hid (show BldAt w.heap.size w.heap.size (Sp.joinP l) wr by have := XB.out; rwa [hke] at this)
              have b1 : ¬ (k : Int) < (l.length : Int) - 1 := by omega
              clear hke
              go_wp2_with fail
              refine (Tryz.Builder_String_any w.heap.size w.heap.size (Sp.joinP l) wr (.inr ⟨XF.out.1, by obtain ⟨v, h1, h2, h3⟩ := XF.out.2; exact ⟨v, h1, by rw [Lib.byteCells_length]; exact h2, h3⟩⟩) XW.out.size).mono ?_
              rintro e w5 ⟨rfl, hb5⟩
              have B5 := Lib.hid (show Ext w w5 from Below.trans XW.out hb5)
              clear hb5
              go_wp2
              go_ret
              exact ⟨rfl, B5.out⟩
end Go.Proofs.YteiblfcehlibpaaGreatDoor
namespace Go.Proofs.YteiblfcehlibpaaGreatDoor
open Go.RowKit
section
variable {P : Program} {md : Region.Mode} {ops : Array Oper} {T : World → Prop}
/-- A forced sequence: behind each of the first n operations the world is of the kind T. -/
def wpSeqT (P : Program) (ops : Array Oper) (T : World → Prop) (Q : Exit → Act → World → Prop) : Nat → List Oper → Act → World → Prop
  | 0, l, a, w => wpList P ops (goesOn Q) l a w
  | _ + 1, [], _, _ => False
  | n + 1, o :: l, a, w => wpList P ops (fun e a w => e = .normal ∧ T w ∧ wpSeqT P ops T Q n l a w) [o] a w
theorem seqT_zero {Q : Exit → Act → World → Prop} {l : List Oper} {a : Act} {w : World} (h : wpList P ops (goesOn Q) l a w) : wpSeqT P ops T Q 0 l a w := h
theorem seqT_succ {Q : Exit → Act → World → Prop} {n : Nat} {o : Oper} {l : List Oper} {a : Act} {w : World} (h : ∀ Q' : Exit → Act → World → Prop, (∀ a w, T w → wpSeqT P ops T Q n l a w → Q' .normal a w) → wpList P ops Q' [o] a w) : wpSeqT P ops T Q (n + 1) (o :: l) a w := h _ fun _ _ h1 h2 => ⟨rfl, h1, h2⟩
theorem wpOp_of_one {Q Q2 : Exit → Act → World → Prop} {K : Act → World → Prop} {i : Nat} {o : Oper} {a : Act} {w : World} (hi : ops[i]? = some o) (hQ : ∀ e a w, Q2 e a w → e = .normal) (hK : ∀ a w, Q2 .normal a w → K a w) (hh : wpList P ops Q2 [o] a w) : wpOp P ops Q i K a w := by
  unfold wpOp
  simp only [hi]
  unfold wpList at hh
  by_cases hwt : Region.wanted o (yielded ops a.tmps) = true
  · rw [if_pos hwt] at hh ⊢
    rcases hh with hh | ⟨_, hh⟩
    · left
      unfold Oper.wp at hh ⊢
      generalize (execOp a.eval o).run P w = r at hh ⊢
      cases r with
      | ok x w2 =>
        cases x with
        | value u => exact hK _ _ hh
        | skip => exact hK _ _ hh
        | defer d => exact hK _ _ hh
        | enter f args =>
          refine Calls.mono hh fun e w3 he => ?_
          cases e with
          | returned u => exact hK _ _ he
          | panicked c => cases hQ _ _ _ he
          | outgrown => obtain ⟨_, _, h⟩ := he; cases hQ _ _ _ h
        | row row args => exact Rows.mono hh fun u w3 he => hK _ _ he
        | _ => exact hh
      | halt x w2 =>
        cases x with
        | panic u => cases hQ _ _ _ hh
        | _ => exact hh
    · obtain ⟨_, _, h⟩ := hh; cases hQ _ _ _ h
  · rw [if_neg hwt] at hh ⊢
    exact hK _ _ hh
theorem wpAnyT_of_seqT {m : Nat} {Q : Exit → Act → World → Prop} : ∀ (n : Nat) (l : List Oper) (k : Nat) (listed : Array Bool) (a : Act) (w : World), k + n = m → (∀ j, l[j]? = ops[k + j]?) →
    Region.seqB md ops l.length k listed = true → wpSeqT P ops T Q n l a w → wpAnyT P md ops T m (goesOn Q) l.length listed a w
  | 0, l, k, listed, a, w, hm, hl, hB, h => wpAnyT_of_seq l k listed a w (by omega) hl hB h
  | n + 1, [], _, _, _, _, _, _, _, h => h.elim
  | n + 1, o :: l, k, listed, a, w, hm, hl, hB, h => by
    have h0 : ops[k]? = some o := by simpa using (hl 0).symm
    simp only [List.length_cons, Region.seqB, Bool.and_eq_true, decide_eq_true_eq] at hB
    refine ⟨fun h1 => (by rw [hB.1] at h1; cases h1), fun i hi => ?_⟩
    rw [hB.1] at hi
    obtain rfl : i = k := by simpa using hi
    exact wpOp_of_one h0 (fun e a w h => h.1) (fun a2 w2 h2 => ⟨fun _ => h2.2.1, wpAnyT_of_seqT n l (i + 1) _ a2 w2 (by omega) (fun j => by have := hl (j + 1); simpa [Nat.add_assoc, Nat.add_comm 1 j] using this) hB.2 h2.2.2⟩) h
def lexSeqB (md : Region.Mode) (ops : Array Oper) (p m : Nat) : Bool :=
  Region.noSelect ops && decide (p ≤ m) && decide (m < ops.size) && sinkFrom md ops 0 m && behindB md ops m && headB md ops (Region.seqB md ops (ops.size - p) p) p 0 (Array.replicate ops.size false)
theorem wpAny_region_seqT (T : World → Prop) {Q : Exit → Act → World → Prop} {a : Act} {w : World} {l : List Oper} (p m : Nat) (hB : lexSeqB .any l.toArray p m = true)
    (hT : T w.drew) (h : wpFloatT P l.toArray T (fun a => wpSeqT P l.toArray T Q (m - p) (l.drop p) a w.drew) (l.take p) a) : wpAny P .any l.toArray (goesOn Q) l.toArray.size (Array.replicate l.toArray.size false) a w.drew := by
  simp only [lexSeqB, Bool.and_eq_true, decide_eq_true_eq] at hB
  obtain ⟨⟨⟨⟨⟨hsel, hpm⟩, hms⟩, hs⟩, hc⟩, hlex⟩ := hB
  have hms' : m < l.length := by simpa using hms
  have hpl : (l.take p).length = p := by simp; omega
  have hdl : (l.drop p).length = l.toArray.size - p := by simp
  have inv0 : ∀ k, HeadInv .any l.toArray k (Array.replicate l.toArray.size false) := fun k =>
    ⟨by simp, fun j oj _ hl => (by rw [getD_replicate_false] at hl; cases hl), fun t _ ht => getD_in (by simpa using ht) (getD_replicate_false _ _)⟩
  refine wpAny_of_T (T := T) (m := m) _ _ _ _ ?_
  have pre := wpAnyT_of_pre (P := P) (T := T) (md := .any) (ops := l.toArray) (n := p) (m := m) (g := l.toArray.size - p) (B := Region.seqB .any l.toArray (l.toArray.size - p) p) (Q := goesOn Q) (fun c a w h => by cases h.1) hsel hpm hms
    (fun ls hi i hin hun t ht => tail_waits3 hs hc hms hi _ i rfl (Nat.zero_le _) hin hun t ht)
    (l.take p) 0 _ a w.drew (fun j hj => by have hj' : j < p := by rw [hpl] at hj; exact hj
                                            simp [hj']) (by rw [hpl]; omega) hT (inv0 p) (inv0 m) (fun j hj => absurd hj (Nat.not_lt_zero j)) (by rw [hpl]; exact hlex) ?_
  · rw [hpl, show l.toArray.size - p + p = l.toArray.size by omega] at pre
    exact pre
  · refine floatT_mono (fun a' hK => ?_) _ _ h
    intro listed' _ _ hB'
    have := wpAnyT_of_seqT (P := P) (T := T) (md := .any) (ops := l.toArray) (m := m) (Q := Q) (m - p) (l.drop p) p listed' a' w.drew (by omega) (fun j => by simp [List.getElem?_drop]) (by rw [hdl]; exact hB') hK
    rwa [hdl] at this
/-- p operations that tell one value in every world of the kind T; then a forced sequence, the operations ahead of the m-th of which stay in T. -/
theorem wp_region_seqT (T : World → Prop) {id : Nat} {Q : Exit → Act → World → Prop} {a : Act} {w : World} {l : List Oper} (p m : Nat) (hm : P.follows .mixedOrders = true) (hB : lexSeqB .any l.toArray p m = true)
    (hT : T w.drew) (h : wpFloatT P l.toArray T (fun a => wpSeqT P l.toArray T Q (m - p) (l.drop p) a w.drew) (l.take p) a) : (Code.region id l.toArray true).wp P Q a w := by
  exact Code.wp_mono (Q := goesOn Q) (fun e a w h => by obtain ⟨rfl, h⟩ := h; exact h) (wp_region_any hm (wpAny_region_seqT T p m hB hT h))
end
end Go.Proofs.YteiblfcehlibpaaGreatDoor
