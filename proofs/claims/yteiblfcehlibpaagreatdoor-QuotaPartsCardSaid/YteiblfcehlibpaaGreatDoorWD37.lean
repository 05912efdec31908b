/- Walks: the document's trees: what stands at a path; a name below a directory; what is below one. Walks: the document's word for 'below a directory'. Walks: the names right below a directory, the document's. Walks: whether the document's tree has a node at a directory. -/
import Derived.Test.YteiblfcehlibpaaGreatDoorWD36
namespace Go.Proofs.YteiblfcehlibpaaGreatDoor
open Go.RowKit Go.Shelf
attribute [local go_sem] yUpon strOf_toList
set_option maxRecDepth 100000 in
set_option maxHeartbeats 4000000 in
theorem rget_calls (l : List Sp.DE) (A : Option Addr) (cap : Nat) (p : Sp.Bs) (w : World) (h : EntsAt w A l) (hl : l.length ≤ 1000000) :
    Calls Tryz.prog 53 #[.slice A l.length cap, .string (strOf p)] w fun e w' => ∃ Av cv, e = .returned (.slice Av (Sp.rget l p).length cv) ∧ Vers w' Av (Sp.rget l p) ∧ w = w' := by
  have HH := Lib.hid h
  clear h
  go_enter Tryz.func53, Tryz.ntmps53
  go_wp2
  go_loopw [5] (fun v5 wr => ∃ k : Nat, k ≤ l.length ∧ v5 = .int .i64 k ∧ Sp.rget (l.drop k) p = Sp.rget l p ∧ w = wr) (fun v5 _ => l.length - (intOf v5).toNat)
  case atStart => exact ⟨0, Nat.zero_le _, rfl, rfl, rfl⟩
  case round =>
    obtain ⟨k, hk2, rfl, hr, rfl⟩ := hrel
    by_cases hlt : k < l.length
    · obtain ⟨eb, eo, rfl, he⟩ := HH.out.at (by omega)
      obtain ⟨Av, cv, c0, c1, hv⟩ := he k hlt
      obtain ⟨x, hx⟩ : ∃ x, x = l[k] := ⟨_, rfl⟩
      have RG := Lib.hid (show (if x.1 = p then x.2 else Sp.rget (l.drop (k + 1)) p) = Sp.rget l p by
        rw [← hr, List.drop_eq_getElem_cons hlt, hx]; rfl)
      rw [← hx] at c0 c1 hv
      have HV := Lib.hid hv
      have b1 : (k : Int) < (l.length : Int) := by omega
      clear hr he hx hv
      by_cases hp : x.1 = p
      · have e1 : (x.1 == p) = true := by rw [hp]; exact beq_self_eq_true _
        have RG2 := Lib.hid (show x.2 = Sp.rget l p by rw [← RG.out, if_pos hp])
        have HPP := Lib.hid hp
        clear hp
        go_wp2
        go_ret
        rw [← RG2.out]
        exact ⟨Av, cv, rfl, HV.out, rfl⟩
      · have e1 : (x.1 == p) = false := by rw [beq_eq_false_iff_ne]; exact hp
        have RG2 := Lib.hid (show Sp.rget (l.drop (k + 1)) p = Sp.rget l p by rw [← RG.out, if_neg hp])
        go_wp2
        refine ⟨⟨k + 1, by omega, by go_num, RG2.out, by first | rfl | trivial⟩, by simp [intOf]; omega⟩
    · obtain rfl : k = l.length := by omega
      rw [List.drop_length] at hr
      have RG := Lib.hid (show ([] : List Sp.Ver) = Sp.rget l p from hr)
      clear hr
      go_wp2
      go_ret
      rw [← RG.out]
      exact ⟨none, 0, rfl, ⟨[], rfl, Cells.nil _ _, fun x h => by cases h⟩, rfl⟩
namespace Sp
def down (d n : Bs) : Bs := if d = [] then n else d ++ 47 :: n
end Sp
set_option maxRecDepth 100000 in
theorem down_calls (d n : Sp.Bs) (w : World) (hdl : d.length ≤ 1000) (hnl : n.length ≤ 1000) : Calls Tryz.prog 56 #[.string (strOf d), .string (strOf n)] w fun e w' => e = .returned (.string (strOf (Sp.down d n))) ∧ w = w' := by
  go_enter Tryz.func56, Tryz.ntmps56
  by_cases hd : d = []
  · subst hd
    have c1 : (([] : List UInt8).isEmpty) = true := rfl
    go_wp2
    go_ret
    exact ⟨by rw [Sp.down, if_pos rfl]; rfl, rfl⟩
  · have c5 : d.isEmpty = false := by cases d with | nil => exact absurd rfl hd | cons _ _ => rfl
    have c6 : (d == []) = false := by rw [beq_eq_false_iff_ne]; exact hd
    have z1 : ¬ 9223372036854775807 < (strOf d).size + 1 := by rw [strOf_size]; omega
    have z2 : ¬ 9223372036854775807 < (strOf d).size + 1 + (strOf n).size := by rw [strOf_size, strOf_size]; omega
    go_wp2
    go_ret
    have e : strOf d ++ ⟨#[47]⟩ ++ strOf n = strOf (Sp.down d n) := by
      rw [Sp.down, if_neg hd]
      apply ByteArray.ext
      simp [strOf]
    exact ⟨congrArg (fun s => Ending.returned (.string s)) e, rfl⟩
end Go.Proofs.YteiblfcehlibpaaGreatDoor
namespace Go.Proofs.YteiblfcehlibpaaGreatDoor
open Go.RowKit Go.Shelf
attribute [local go_sem] yUpon strOf_toList
namespace Sp
def bad (p d : Bs) : Bool := decide (parts p = []) || (decide (d ≠ []) && decide (parts d = [])) || decide ((parts p).length ≤ (parts d).length)
theorem under_bad (p d : Bs) : under p d = (!bad p d && decide ((parts p).take (parts d).length = parts d)) := by
  have h : decide ((parts d).length < (parts p).length) = !decide ((parts p).length ≤ (parts d).length) := by
    rw [← decide_not]
    congr 1
    simp [Nat.not_le]
  unfold under bad
  simp only [ne_eq, decide_not, h]
  generalize decide (parts p = []) = a1
  generalize decide (d = []) = a2
  generalize decide (parts d = []) = a3
  generalize decide ((parts p).length ≤ (parts d).length) = a4
  cases a1 <;> cases a2 <;> cases a3 <;> cases a4 <;> rfl
end Sp
set_option maxRecDepth 100000 in
set_option maxHeartbeats 4000000 in
theorem under_calls (p d : Sp.Bs) (w : World) (hpl : p.length ≤ 1000000) (hdl : d.length ≤ 1000000) :
    Calls Tryz.prog 69 #[.string (strOf p), .string (strOf d)] w fun e w' => e = .returned (.bool (Sp.under p d)) ∧ Ext w w' := by
  have PP := Lib.hid (show ∀ W, _ from fun W => rparts_calls (strOf p) W (by rw [strOf_size]; omega))
  have PD := Lib.hid (show ∀ W, _ from fun W => rparts_calls (strOf d) W (by rw [strOf_size]; omega))
  have UB := Lib.hid (Sp.under_bad p d)
  have hP4 := Sp.parts_len p
  have hD4 := Sp.parts_len d
  rw [strOf_data] at PP PD
  obtain ⟨P, hP⟩ : ∃ P, P = Sp.parts p := ⟨_, rfl⟩
  obtain ⟨D, hD⟩ : ∃ D, D = Sp.parts d := ⟨_, rfl⟩
  rw [← hP, ← hD] at UB
  rw [← hP] at PP hP4
  rw [← hD] at PD hD4
  obtain ⟨bb, hbb⟩ : ∃ bb, bb = Sp.bad p d := ⟨_, rfl⟩
  rw [← hbb] at UB
  have HBB := Lib.hid (show bb = (decide (P = []) || (decide (d ≠ []) && decide (D = [])) || decide (P.length ≤ D.length)) by rw [hbb, Sp.bad, hP, hD])
  clear hP hD hbb
  go_enter Tryz.func69, Tryz.ntmps69
  go_wp2_with fail
  refine (PP.out w).mono ?_
  intro e w1 ht
  obtain ⟨A1, c1, rfl, _, hN1, hb1⟩ := ht.nams
  have N1 := Lib.hid hN1
  have B1 := Lib.hid hb1
  clear ht hN1 hb1
  go_wp2_with fail
  refine (PD.out w1).mono ?_
  intro e w2 ht
  obtain ⟨A2, c2, rfl, _, hN2, hb2⟩ := ht.nams
  have N2 := Lib.hid hN2
  have N12 := Lib.hid (N1.out.ext hb2)
  have B2 := Lib.hid (B1.out.trans hb2)
  clear ht hN2 hb2 PP PD
  go_upto_region 2 with fail
  go_cut [30] (fun v30 wx => v30 = .bool bb ∧ wx = w2)
  case first =>
    by_cases h1 : P = []
    · have r := Lib.hid (show bb = true by rw [HBB.out]; simp [h1])
      have e1 : P.length = 0 := by rw [h1]; rfl
      have z := Lib.hid h1
      clear h1
      go_wp2
      go_meet
      case rel => exact ⟨by rw [r.out], rfl⟩
    · have e1 : ((P.length : Int) == 0) = false := by rw [beq_eq_false_iff_ne]; intro h; exact h1 (List.eq_nil_of_length_eq_zero (by omega))
      have e2 : ¬ P.length = 0 := fun h => h1 (List.eq_nil_of_length_eq_zero h)
      by_cases h4 : P.length ≤ D.length
      · have f1 : (P.length : Int) ≤ (D.length : Int) := by omega
        have r := Lib.hid (show bb = true by rw [HBB.out]; simp [h4])
        by_cases h2 : d = []
        · subst h2
          have c1 : (([] : List UInt8).isEmpty) = true := rfl
          clear h1
          go_wp2
          go_meet
          case rel => exact ⟨by rw [r.out], rfl⟩
        · have c5 : d.isEmpty = false := by cases d with | nil => exact absurd rfl h2 | cons _ _ => rfl
          have c6 : (d == []) = false := by rw [beq_eq_false_iff_ne]; exact h2
          have e3 : ((D.length : Int) == 0) = false := by rw [beq_eq_false_iff_ne]; omega
          have e4 : ¬ D.length = 0 := by omega
          clear h1
          go_wp2
          go_meet
          case rel => exact ⟨by rw [r.out], rfl⟩
      · have f1 : ¬ (P.length : Int) ≤ (D.length : Int) := by omega
        by_cases h2 : d = []
        · subst h2
          have c1 : (([] : List UInt8).isEmpty) = true := rfl
          have r := Lib.hid (show bb = false by rw [HBB.out]; simp [h4, h1])
          clear h1
          go_wp2
          go_meet
          case rel => exact ⟨by rw [r.out], rfl⟩
        · have c5 : d.isEmpty = false := by cases d with | nil => exact absurd rfl h2 | cons _ _ => rfl
          have c6 : (d == []) = false := by rw [beq_eq_false_iff_ne]; exact h2
          by_cases h3 : D = []
          · have r := Lib.hid (show bb = true by rw [HBB.out]; simp [h2, h3])
            have e3 : ((D.length : Int) == 0) = true := by rw [h3]; rfl
            clear h1 h3
            go_wp2
            go_meet
            case rel => exact ⟨by rw [r.out], rfl⟩
          · have r := Lib.hid (show bb = false by rw [HBB.out]; simp [h4, h1, h3])
            have e3 : ((D.length : Int) == 0) = false := by rw [beq_eq_false_iff_ne]; intro h; exact h3 (List.eq_nil_of_length_eq_zero (by omega))
            have e4 : ¬ D.length = 0 := fun h => h3 (List.eq_nil_of_length_eq_zero h)
            clear h1 h3
            go_wp2
            go_meet
            case rel => exact ⟨by rw [r.out], rfl⟩
  case rest =>
    obtain ⟨rfl, hwc⟩ := hcut
    rw [hwc]
    clear hwc
    cases bb with
    | true =>
      go_wp2
      go_ret
      exact ⟨by rw [UB.out]; rfl, B2.out⟩
    | false =>
      have hlt0 : D.length < P.length := by
        have := HBB.out
        have h := this.symm
        simp only [Bool.or_eq_false_iff, decide_eq_false_iff_not] at h
        omega
      go_wp2
      go_loopw [7] (fun v7 wr => ∃ k : Nat, k ≤ D.length ∧ v7 = .int .i64 k ∧ P.take k = D.take k ∧ Ext w2 wr) (fun v7 _ => D.length - (intOf v7).toNat)
      case atStart => exact ⟨0, Nat.zero_le _, rfl, rfl, Ext.refl _⟩
      case round =>
        obtain ⟨k, hk2, rfl, ht, hb⟩ := hrel
        have HT := Lib.hid ht
        have HB := Lib.hid hb
        clear ht hb
        by_cases hlt : k < D.length
        · obtain ⟨a1, o1, rfl, hn1⟩ := N12.out.at (by omega)
          obtain ⟨a2, o2, rfl, hn2⟩ := N2.out.at (by omega)
          have hkP : k < P.length := by omega
          have x1 := HB.out.cell (hn1 k hkP)
          have x2 := HB.out.cell (hn2 k hlt)
          have TP := Lib.hid (List.take_succ_eq_append_getElem hkP)
          have TD := Lib.hid (List.take_succ_eq_append_getElem hlt)
          obtain ⟨y1, hy1⟩ : ∃ y, y = P[k] := ⟨_, rfl⟩
          obtain ⟨y2, hy2⟩ : ∃ y, y = D[k] := ⟨_, rfl⟩
          rw [← hy1] at x1 TP
          rw [← hy2] at x2 TD
          have X1 := Lib.hid (show wr.drew.cell? ⟨a1, o1 + k, none⟩ = some (.string (strOf y1)) from x1)
          have X2 := Lib.hid (show wr.drew.cell? ⟨a2, o2 + k, none⟩ = some (.string (strOf y2)) from x2)
          have b1 : (k : Int) < (D.length : Int) := by omega
          have b2 : (k : Int) < (P.length : Int) := by omega
          clear hn1 hn2 hy1 hy2 x1 x2
          by_cases hy : y1 = y2
          · have e1 : (y1 == y2) = true := by rw [hy]; exact beq_self_eq_true _
            have HY := Lib.hid hy
            clear hy
            go_wp2_with fail
            refine wp_region_det (fun W => W = wr.drew) (by kernel_rfl) (by kernel_rfl) rfl ?_
            repeat (first
              | (refine det_step (fun K hK => ?_)
                 apply Exists.intro
                 refine ⟨Or.inl ⟨rfl, fun W hS => ?_⟩, ?_⟩
                 · have hz : W = wr.drew := hS; subst hz; have x1 := X1.out; have x2 := X2.out
                   go_simp
                   first
                   | exact rfl
                   | exact ⟨rfl, hS⟩
                   | (fail)
                 go_simp
                 refine hK _ ?_
                 clear hK K)
              | (refine det_step (fun K hK => ?_); refine det_no' rfl ?_; go_simp; refine hK _ ?_; clear hK K))
            refine det_nil ?_
            rintro W rfl
            go_wp2
            refine ⟨⟨k + 1, by omega, by go_num, by rw [TP.out, TD.out, HT.out, HY.out], HB.out.drew⟩, by simp [intOf]; omega⟩
          · have e1 : (y1 == y2) = false := by rw [beq_eq_false_iff_ne]; exact hy
            have HY := Lib.hid hy
            clear hy
            go_wp2_with fail
            refine wp_region_det (fun W => W = wr.drew) (by kernel_rfl) (by kernel_rfl) rfl ?_
            repeat (first
              | (refine det_step (fun K hK => ?_)
                 apply Exists.intro
                 refine ⟨Or.inl ⟨rfl, fun W hS => ?_⟩, ?_⟩
                 · have hz : W = wr.drew := hS; subst hz; have x1 := X1.out; have x2 := X2.out
                   go_simp
                   first
                   | exact rfl
                   | exact ⟨rfl, hS⟩
                   | (fail)
                 go_simp
                 refine hK _ ?_
                 clear hK K)
              | (refine det_step (fun K hK => ?_); refine det_no' rfl ?_; go_simp; refine hK _ ?_; clear hK K))
            refine det_nil ?_
            rintro W rfl
            go_wp2
            go_ret
            refine ⟨?_, B2.out.trans HB.out.drew⟩
            rw [UB.out]
            have hne : ¬ P.take D.length = D := by
              intro h
              have h2 := congrArg (List.take (k + 1)) h
              rw [List.take_take, Nat.min_eq_left (by omega), TP.out, TD.out] at h2
              have h3 := List.append_inj_right' h2 rfl
              exact HY.out (by injection h3)
            rw [decide_eq_false hne]; rfl
        · obtain rfl : k = D.length := by omega
          have HT2 := Lib.hid (show P.take D.length = D by rw [HT.out, List.take_length])
          go_wp2
          go_ret
          refine ⟨?_, B2.out.trans HB.out⟩
          rw [UB.out, decide_eq_true HT2.out]; rfl
end Go.Proofs.YteiblfcehlibpaaGreatDoor
namespace Go.Proofs.YteiblfcehlibpaaGreatDoor
open Go.RowKit Go.Shelf
attribute [local go_sem] yUpon strOf_toList
namespace Sp
def nxt (out : List Bs) (s : Bs) : List Bs := if out.getLast? = some s then out else out ++ [s]
theorem rnames_step (d : Bs) (out : List Bs) (e : DE) (r : List DE) : rnames d out (e :: r) = if under e.1 d = true then rnames d (nxt out ((parts e.1).getD (parts d).length [])) r else rnames d out r := rfl
theorem under_lt {p d : Bs} (h : under p d = true) : (parts d).length < (parts p).length := by
  unfold under at h
  simp only [Bool.and_eq_true, decide_eq_true_eq] at h
  exact h.1.2
end Sp
set_option maxRecDepth 100000 in
set_option maxHeartbeats 4000000 in
theorem rnames_calls (l : List Sp.DE) (A : Option Addr) (cap : Nat) (d : Sp.Bs) (w : World) (h : EntsAt w A l) (hl : l.length ≤ 1000000) (hpl : ∀ e ∈ l, e.1.length ≤ 1000000) (hdl : d.length ≤ 1000000) :
    Calls Tryz.prog 155 #[.slice A l.length cap, .string (strOf d)] w fun e w' => ∃ B c, e = .returned (.slice B (Sp.rnames d [] l).length c) ∧ Nams w' B (Sp.rnames d [] l) ∧ Ext w w' := by
  have HH := Lib.hid h
  have HPL := Lib.hid hpl
  clear h hpl
  go_enter Tryz.func155, Tryz.ntmps155
  go_wp2
  go_loopw [5, 6] (fun v5 v6 wr => ∃ (k : Nat) (out : List Sp.Bs) (v : Value), k ≤ l.length ∧ v = v5 ∧ v6 = .int .i64 k ∧ out.length ≤ k ∧ wr.ownsRow w.heap.size 9 1 v out.length (strsC out) ∧ Sp.rnames d out (l.drop k) = Sp.rnames d [] l ∧ Ext w wr) (fun _ v6 _ => l.length - (intOf v6).toNat)
  case atStart => exact ⟨0, [], _, Nat.zero_le _, rfl, rfl, Nat.le_refl _, World.ownsRow_nil _ _ _ _, rfl, Ext.refl _⟩
  case round =>
    obtain ⟨k, out, v, hk2, rfl, rfl, hol, ho, hr, hb⟩ := hrel
    have HO := Lib.hid ho
    have HB := Lib.hid hb
    clear ho hb
    by_cases hlt : k < l.length
    · obtain ⟨eb, eo, rfl, he⟩ := HH.out.at (by omega)
      obtain ⟨Av, cv, c0, _, _⟩ := he k hlt
      obtain ⟨x, hx⟩ : ∃ x, x = l[k] := ⟨_, rfl⟩
      have RS := Lib.hid (show (if Sp.under x.1 d = true then Sp.rnames d (Sp.nxt out ((Sp.parts x.1).getD (Sp.parts d).length [])) (l.drop (k + 1)) else Sp.rnames d out (l.drop (k + 1))) = Sp.rnames d [] l by
        rw [← hr, List.drop_eq_getElem_cons hlt, hx]; rfl)
      have XL := Lib.hid (show x.1.length ≤ 1000000 by rw [hx]; exact HPL.out _ (List.getElem_mem hlt))
      rw [← hx] at c0
      have C0 := Lib.hid c0
      have x0 := HB.out.cell c0
      have b1 : (k : Int) < (l.length : Int) := by omega
      clear hr he hx c0
      go_wp2_with fail
      refine (under_calls x.1 d wr XL.out hdl).mono ?_
      rintro e w1 ⟨rfl, hb1⟩
      have B1 := Lib.hid (show Ext wr w1 from hb1)
      clear hb1 x0
      by_cases hu : Sp.under x.1 d = true
      · have RS2 := Lib.hid (show Sp.rnames d (Sp.nxt out ((Sp.parts x.1).getD (Sp.parts d).length [])) (l.drop (k + 1)) = Sp.rnames d [] l by rw [← RS.out, if_pos hu])
        have LT := Lib.hid (Sp.under_lt hu)
        have x1 := (HB.out.trans B1.out).cell C0.out
        rw [hu]
        clear hu
        go_wp2_with fail
        refine (rparts_calls (strOf x.1) w1 (by rw [strOf_size]; have := XL.out; omega)).mono ?_
        intro e w2 ht
        obtain ⟨A2, c2, rfl, _, hN2, hb2⟩ := ht.nams
        rw [strOf_data] at hN2 ⊢
        have N2 := Lib.hid hN2
        have B2 := Lib.hid (show Ext wr w2 from B1.out.trans hb2)
        clear ht hN2 hb2 x1
        go_wp2_with fail
        refine (rparts_calls (strOf d) w2 (by rw [strOf_size]; omega)).mono ?_
        intro e w3 ht
        obtain ⟨A3, c3, rfl, _, _, hb3⟩ := ht.nams
        rw [strOf_data] at ⊢
        have B3 := Lib.hid (show Ext wr w3 from B2.out.trans hb3)
        have N3 := Lib.hid (N2.out.ext hb3)
        have HO3 := Lib.hid (own_ext HO.out B3.out)
        clear ht hb3
        obtain ⟨j, hj⟩ : ∃ j, j = (Sp.parts d).length := ⟨_, rfl⟩
        obtain ⟨P, hP⟩ : ∃ P, P = Sp.parts x.1 := ⟨_, rfl⟩
        rw [← hj, ← hP] at LT RS2
        rw [← hP] at N3
        rw [← hj, ← hP]
        have hjP := LT.out
        obtain ⟨a2, o2, rfl, hn2⟩ := N3.out.at (by omega)
        obtain ⟨s, hs⟩ : ∃ s, s = P[j] := ⟨_, rfl⟩
        have s1 := hn2 j hjP
        rw [← hs] at s1
        have RS3 := Lib.hid (show Sp.rnames d (Sp.nxt out s) (l.drop (k + 1)) = Sp.rnames d [] l by
          rw [← RS2.out, List.getD_eq_getElem?_getD, List.getElem?_eq_getElem hjP, ← hs]; rfl)
        have d1 : (j : Int) < (P.length : Int) := by omega
        have E3 := Lib.hid (HB.out.trans B3.out)
        clear hj hP hn2 hs
        by_cases h0 : out = []
        · subst h0
          have NX := Lib.hid (show Sp.nxt [] s = [s] from rfl)
          rcases own_form HO3.out with ⟨rfl, _, _⟩ | ⟨go, co, rfl, _, _⟩
          · go_wp2_with (at_builtin; refine app_new appStr rfl _ _ rfl w.heap.size _ 0 _ rfl HO3.out #[.string (strOf s)] 9 1 rfl rfl (by intro u hu; simp at hu; subst hu; rfl) (by decide) (by omega) E3.out.size ?_; intro g4 cap4 w4 hown4 hgr4 hb4 hbg4; have O4 := Lib.hid hown4; have B4 := Lib.hid (Below.trans E3.out hb4); clear hown4 hgr4 hb4 hbg4)
            refine ⟨⟨k + 1, [s], _, by omega, rfl, by go_num, by simp, O4.out, by rw [← RS3.out, NX.out], B4.out⟩, by simp [intOf]; omega⟩
          · go_wp2_with (at_builtin; refine app_new appStr rfl _ _ rfl w.heap.size _ 0 _ rfl HO3.out #[.string (strOf s)] 9 1 rfl rfl (by intro u hu; simp at hu; subst hu; rfl) (by decide) (by omega) E3.out.size ?_; intro g4 cap4 w4 hown4 hgr4 hb4 hbg4; have O4 := Lib.hid hown4; have B4 := Lib.hid (Below.trans E3.out hb4); clear hown4 hgr4 hb4 hbg4)
            refine ⟨⟨k + 1, [s], _, by omega, rfl, by go_num, by simp, O4.out, by rw [← RS3.out, NX.out], B4.out⟩, by simp [intOf]; omega⟩
        · have hn0 : out.length ≠ 0 := fun h => h0 (List.eq_nil_of_length_eq_zero h)
          obtain ⟨m, hm⟩ : ∃ m, m = out.length - 1 := ⟨_, rfl⟩
          have hml : m < out.length := by omega
          have w1 : IntKind.i64.wrap ((out.length : Int) - 1) = (m : Int) := by rw [IntKind.wrap_i64]; omega
          have e0 : ((out.length : Int) == 0) = false := by rw [beq_eq_false_iff_ne]; omega
          have d2 : (m : Int) < (out.length : Int) := by omega
          obtain ⟨y, hy⟩ : ∃ y, y = out[m] := ⟨_, rfl⟩
          have GL := Lib.hid (show out.getLast? = some y by rw [List.getLast?_eq_getElem?, ← hm, List.getElem?_eq_getElem hml, hy])
          rcases own_form HO3.out with ⟨_, h1, _⟩ | ⟨go, co, rfl, _, _⟩
          · exact absurd h1 hn0
          have y1 := (own_isBlk HO3.out m (.string (strOf y)) (by rw [strsC, List.getElem?_map, List.getElem?_eq_getElem hml, ← hy]; rfl)).1
          have HN0 := Lib.hid hn0
          clear h0 hy hm hn0
          by_cases hys : y = s
          · have e1 : (y == s) = true := by rw [hys]; exact beq_self_eq_true _
            have NX := Lib.hid (show Sp.nxt out s = out by rw [Sp.nxt, if_pos (by rw [GL.out, hys])])
            clear hys
            go_wp2
            refine ⟨⟨k + 1, out, _, by omega, rfl, by go_num, by omega, HO3.out, by rw [← RS3.out, NX.out], E3.out⟩, by simp [intOf]; omega⟩
          · have e1 : (y == s) = false := by rw [beq_eq_false_iff_ne]; exact hys
            have NX := Lib.hid (show Sp.nxt out s = out ++ [s] by rw [Sp.nxt, if_neg (by rw [GL.out]; intro h; exact hys (Option.some.inj h))])
            clear hys
            go_wp2_with (at_builtin; refine app_new appStr rfl _ _ rfl w.heap.size _ out.length _ rfl HO3.out #[.string (strOf s)] 9 1 rfl rfl (by intro u hu; simp at hu; subst hu; rfl) (by decide) (by omega) E3.out.size ?_; intro g4 cap4 w4 hown4 hgr4 hb4 hbg4; have O4 := Lib.hid hown4; have B4 := Lib.hid (Below.trans E3.out hb4); clear hown4 hgr4 hb4 hbg4)
            refine ⟨⟨k + 1, out ++ [s], _, by omega, rfl, by go_num, by simp; omega, ?_, by rw [← RS3.out, NX.out], B4.out⟩, by simp [intOf]; omega⟩
            have := O4.out
            rw [List.length_append, strsC, List.map_append]
            exact this
      · have hu2 : Sp.under x.1 d = false := by simpa using hu
        have RS2 := Lib.hid (show Sp.rnames d out (l.drop (k + 1)) = Sp.rnames d [] l by rw [← RS.out, if_neg hu])
        rw [hu2]
        clear hu hu2
        go_wp2
        refine ⟨⟨k + 1, out, _, by omega, rfl, by go_num, by omega, own_ext HO.out B1.out, RS2.out, HB.out.trans B1.out⟩, by simp [intOf]; omega⟩
    · obtain rfl : k = l.length := by omega
      rw [List.drop_length] at hr
      have RG := Lib.hid (show out = Sp.rnames d [] l from hr)
      obtain ⟨B, c, rfl, hc⟩ := own_read HO.out
      have HC := Lib.hid hc
      clear hr hc
      go_wp2
      go_ret
      rw [← RG.out]
      exact ⟨B, c, rfl, HC.out, HB.out⟩
end Go.Proofs.YteiblfcehlibpaaGreatDoor
namespace Go.Proofs.YteiblfcehlibpaaGreatDoor
open Go.RowKit Go.Shelf
attribute [local go_sem] yUpon strOf_toList
namespace Sp
def rthere (l : List DE) (d : Bs) : Bool := decide (d = []) || (decide (rget l d ≠ []) || decide (rnames d [] l ≠ []))
end Sp
set_option maxRecDepth 100000 in
set_option maxHeartbeats 4000000 in
theorem rthere_calls (l : List Sp.DE) (A : Option Addr) (cap : Nat) (d : Sp.Bs) (w : World) (h : EntsAt w A l) (hl : l.length ≤ 1000000) (hpl : ∀ e ∈ l, e.1.length ≤ 1000000) (hdl : d.length ≤ 1000000) :
    Calls Tryz.prog 120 #[.slice A l.length cap, .string (strOf d)] w fun e w' => e = .returned (.bool (Sp.rthere l d)) ∧ Ext w w' := by
  have GC := Lib.hid (rget_calls l A cap d w h hl)
  have NC := Lib.hid (rnames_calls l A cap d w h hl hpl hdl)
  clear h hpl
  go_enter Tryz.func120, Tryz.ntmps120
  by_cases hd : d = []
  · subst hd
    have c1 : (([] : List UInt8).isEmpty) = true := rfl
    go_wp2
    go_ret
    exact ⟨ret_bool (by simp [Sp.rthere]), Ext.refl _⟩
  · have c5 : d.isEmpty = false := by cases d with | nil => exact absurd rfl hd | cons _ _ => rfl
    have c6 : (d == []) = false := by rw [beq_eq_false_iff_ne]; exact hd
    have HD := Lib.hid hd
    clear hd
    go_wp2_with fail
    refine GC.out.mono ?_
    rintro e w1 ⟨Av, cv, rfl, _, rfl⟩
    by_cases hg : Sp.rget l d = []
    · rw [hg]
      have HG := Lib.hid hg
      clear hg
      go_wp2_with fail
      refine NC.out.mono ?_
      rintro e w2 ⟨B, c, rfl, _, hb⟩
      have HB := Lib.hid hb
      clear hb
      by_cases hn : Sp.rnames d [] l = []
      · rw [hn]
        have HN := Lib.hid hn
        clear hn
        go_wp2
        go_ret
        exact ⟨ret_bool (by simp [Sp.rthere, HG.out, HN.out, HD.out]), HB.out⟩
      · have HN := Lib.hid hn
        have n0 : 0 < (Sp.rnames d [] l).length := Nat.pos_of_ne_zero fun h => hn (List.eq_nil_of_length_eq_zero h)
        obtain ⟨n, hnn⟩ : ∃ n, n = (Sp.rnames d [] l).length := ⟨_, rfl⟩
        rw [← hnn] at n0 ⊢
        have n1 : (0 : Int) < (n : Int) := by omega
        clear hn hnn
        go_wp2
        go_ret
        exact ⟨ret_bool (by simp [Sp.rthere, HG.out, HN.out]), HB.out⟩
    · have HG := Lib.hid hg
      have n0 : 0 < (Sp.rget l d).length := Nat.pos_of_ne_zero fun h => hg (List.eq_nil_of_length_eq_zero h)
      obtain ⟨n, hnn⟩ : ∃ n, n = (Sp.rget l d).length := ⟨_, rfl⟩
      rw [← hnn] at n0 ⊢
      have n1 : (0 : Int) < (n : Int) := by omega
      clear hg hnn
      go_wp2
      go_ret
      exact ⟨ret_bool (by simp [Sp.rthere, HG.out]), Ext.refl _⟩
end Go.Proofs.YteiblfcehlibpaaGreatDoor
