/- Deltas: a text in a rising list; the names below a directory, of two lists. Deltas: the names right below a directory, of two lists. An append of cells, and where the row lies then: where it lay, or in a new block. -/
import Derived.Test.YtmlfnidckfeebaaGreatDoorM30
import Derived.Test.YtmlfnidckfeebaaGreatDoorM35
import Derived.Test.YtmlfnidckfeebaaGreatDoorM20
import Derived.Test.YtmlfnidckfeebaaGreatDoorM07
namespace Go.Proofs.YtmlfnidckfeebaaGreatDoor
open Go.RowKit Go.Shelf
attribute [local go_sem] yUpon strOf_toList
namespace Sp
/-- A rising list with a text in it, from an element on. -/
def put18 (s : Bs) : Bool → List Bs → List Bs
  | b, [] => if b then [] else [s]
  | b, x :: r => ((if b = false ∧ compare s x ≤ 0 then [s] else []) ++ (if x = s then [] else [x])) ++ put18 s (b || decide (compare s x ≤ 0)) r
theorem put18_len (s : Bs) : ∀ (l : List Bs) (b : Bool), (put18 s b l).length ≤ l.length + 1
  | [], b => by rw [put18]; split <;> simp
  | x :: r, b => by
    have key : ∀ (l : List Bs) (b : Bool), (put18 s b l).length ≤ l.length + if b then 0 else 1 := by
      intro l
      induction l with
      | nil => intro b; rw [put18]; cases b <;> simp
      | cons y q ih =>
        intro b
        have h1 : (if y = s then ([] : List Bs) else [y]).length ≤ 1 := by split <;> simp
        rw [put18, List.length_append, List.length_append]
        cases b with
        | true =>
          have := ih true
          rw [if_neg (by simp)]
          simp only [Bool.true_or, List.length_nil, List.length_cons, if_true] at this ⊢
          omega
        | false =>
          by_cases h : compare s y ≤ 0
          · have := ih true
            rw [if_pos ⟨rfl, h⟩]
            simp only [h, decide_true, Bool.false_or, List.length_nil, List.length_cons, if_true] at this ⊢
            simp
            omega
          · have := ih false
            rw [if_neg (fun hh => h hh.2)]
            simp only [h, decide_false, Bool.false_or, List.length_nil, List.length_cons] at this ⊢
            simp at this ⊢
            omega
    have := key (x :: r) b
    split at this <;> omega
end Sp
set_option maxRecDepth 100000 in
set_option maxHeartbeats 4000000 in
theorem put18_own (l : List Sp.Bs) (A : Option Addr) (cap : Nat) (s : Sp.Bs) (w : World) (h : Nams w A l) (hl : l.length ≤ 1000) (hs : ∀ x ∈ l, x.length ≤ 1000000) (hsl : s.length ≤ 1000000) :
    Calls Tryz.prog 218 #[.slice A l.length cap, .string (strOf s)] w fun e w' => ∃ v, e = .returned v ∧ w'.ownsRow w.heap.size 9 1 v (Sp.put18 s false l).length (strsC (Sp.put18 s false l)) ∧ Ext w w' := by
  have HH := Lib.hid h
  have HS := Lib.hid hs
  clear h hs
  go_enter Tryz.func218, Tryz.ntmps218
  go_wp2
  go_loopw [5, 6, 7] (fun v5 v6 v7 wr => ∃ (k : Nat) (out : List Sp.Bs) (b : Bool), k ≤ l.length ∧ v6 = .bool b ∧ v7 = .int .i64 k ∧ wr.ownsRow w.heap.size 9 1 v5 out.length (strsC out) ∧ out.length ≤ 2 * k ∧ out ++ Sp.put18 s b (l.drop k) = Sp.put18 s false l ∧ Ext w wr) (fun _ _ v7 _ => l.length - (intOf v7).toNat)
  case atStart => exact ⟨0, [], false, Nat.zero_le _, rfl, rfl, World.ownsRow_nil _ _ _ _, Nat.zero_le _, rfl, Ext.refl _⟩
  case round =>
    obtain ⟨k, out, b, hk, rfl, rfl, ho, hol, hr, hb⟩ := hrel
    have HO := Lib.hid ho
    have HB := Lib.hid hb
    by_cases hlt : k < l.length
    · obtain ⟨sb, so, rfl, hc⟩ := HH.out.at (by omega)
      have C0 := Lib.hid (hc k hlt)
      have XL := HS.out _ (List.getElem_mem hlt)
      rw [List.drop_eq_getElem_cons hlt, Sp.put18] at hr
      obtain ⟨x, hx⟩ : ∃ x, x = l[k] := ⟨_, rfl⟩
      rw [← hx] at C0 XL hr
      have HR := Lib.hid hr
      have kb : (k : Int) < (l.length : Int) := by omega
      have f0 := HB.out.cell C0.out
      obtain ⟨le, hle⟩ : ∃ le, le = decide (Sp.compare s x ≤ 0) := ⟨_, rfl⟩
      have HLE := Lib.hid hle
      have HR2 := Lib.hid (show out ++ (((if b = false ∧ le = true then [s] else []) ++ (if x = s then [] else [x])) ++ Sp.put18 s (b || le) (l.drop (k + 1))) = Sp.put18 s false l by
        rw [← hr, hle]
        simp only [decide_eq_true_eq])
      clear ho hr hb hc hx hle HR f0
      go_upto_region 6 with fail
      go_cut [6, 24] (fun v6 v24 wx => v6 = .bool b ∧ v24 = .bool (!b && le) ∧ Ext wr wx)
      case first =>
        have f0 := HB.out.cell C0.out
        cases b with
        | true =>
          go_wp2
          go_meet
          case rel => exact ⟨rfl, rfl, Ext.refl _⟩
        | false =>
          go_wp2_with fail
          refine (rcompare_calls (strOf s) (strOf x) wr (by rw [strOf_size]; omega) (by rw [strOf_size]; omega)).mono ?_
          rintro e w3 ⟨rfl, hb3⟩
          rw [strOf_data, strOf_data]
          have B3 := Lib.hid (show Ext wr w3 from hb3)
          obtain ⟨cc, hcc⟩ : ∃ cc, cc = Sp.compare s x := ⟨_, rfl⟩
          rw [← hcc]
          have HCC := Lib.hid (show le = decide (cc ≤ 0) by rw [hcc]; exact HLE.out)
          clear hb3 hcc
          by_cases hc0 : cc ≤ 0
          · have r := Lib.hid (show le = true by rw [HCC.out]; exact decide_eq_true hc0)
            go_wp2
            go_meet
            case rel => exact ⟨rfl, by rw [r.out]; first | rfl | (simp; omega), B3.out⟩
          · have r := Lib.hid (show le = false by rw [HCC.out]; exact decide_eq_false hc0)
            go_wp2
            go_meet
            case rel => exact ⟨rfl, by rw [r.out]; first | rfl | (simp; omega), B3.out⟩
      case rest =>
        obtain ⟨rfl, rfl, hb3⟩ := hcut
        obtain ⟨w3, hw3⟩ : ∃ w3, w3 = wc := ⟨_, rfl⟩
        rw [← hw3] at hb3 ⊢
        have B3 := Lib.hid (show Ext wr w3 from hb3)
        have E3 := Lib.hid (HB.out.trans hb3)
        have O3 := Lib.hid (own_ext HO.out hb3)
        obtain ⟨out1, ho1⟩ : ∃ out1, out1 = out ++ (if b = false ∧ le = true then [s] else []) := ⟨_, rfl⟩
        have RS1 := Lib.hid (show out1 ++ ((if x = s then [] else [x]) ++ Sp.put18 s (b || le) (l.drop (k + 1))) = Sp.put18 s false l by
          rw [ho1, ← HR2.out]
          simp only [List.append_assoc])
        have HO1 := Lib.hid ho1
        have L1 : out1.length ≤ 2 * k + 1 := by
          rw [ho1, List.length_append]
          split <;> simp <;> omega
        obtain ⟨ins, hins⟩ : ∃ ins, ins = (!b && le) := ⟨_, rfl⟩
        rw [← hins]
        have HINS := Lib.hid hins
        clear hb3 hw3 ho1 hins HR2 HLE
        go_upto_if 24 with fail
        go_cut [5, 6, 24] (fun v5 v6 _ wy => ∃ v1, v1 = v5 ∧ v6 = .bool (b || le) ∧ wy.ownsRow w.heap.size 9 1 v1 out1.length (strsC out1) ∧ Ext w wy)
        case first =>
          cases ins with
          | true =>
            have hbl : b = false ∧ le = true := by have := HINS.out; revert this; cases b <;> cases le <;> simp
            have HO2 := Lib.hid (show out1 = out ++ [s] by rw [HO1.out, if_pos hbl])
            have BL := Lib.hid (show (b || le) = true by rw [hbl.2]; simp)
            have tokA : True := trivial
            clear hbl
            go_wp2_with (have _t := tokA; at_builtin; refine app_new appStr rfl _ _ rfl w.heap.size _ out.length _ rfl O3.out #[.string (strOf s)] 9 1 rfl rfl (by intro u hu; simp at hu; subst hu; rfl) (by decide) (by omega) E3.out.size ?_; intro g9 cap9 w9 hown9 hgr9 hb9 hbg9; have O9 := Lib.hid hown9; have B9 := Lib.hid (Below.trans E3.out hb9); clear tokA _t hown9 hgr9 hb9 hbg9)
            go_meet
            case rel =>
              refine ⟨_, rfl, by rw [BL.out], ?_, B9.out⟩
              rw [HO2.out, List.length_append, strsC, List.map_append]
              exact O9.out
          | false =>
            have hbl : ¬ (b = false ∧ le = true) := by have := HINS.out; revert this; cases b <;> cases le <;> simp
            have HO2 := Lib.hid (show out1 = out by rw [HO1.out, if_neg hbl, List.append_nil])
            have BL := Lib.hid (show (b || le) = b by revert hbl; cases b <;> cases le <;> simp)
            clear hbl
            go_wp2
            go_meet
            case rel => exact ⟨_, rfl, by rw [BL.out], by rw [HO2.out]; exact O3.out, E3.out⟩
        case rest =>
          obtain ⟨v1, rfl, rfl, hO4, hb4⟩ := hcut
          obtain ⟨w4, hw4⟩ : ∃ w4, w4 = wc := ⟨_, rfl⟩
          rw [← hw4] at hO4 hb4 ⊢
          have O4 := Lib.hid hO4
          have E4 := Lib.hid (show Ext w w4 from hb4)
          obtain ⟨b2, hb2⟩ : ∃ b2, b2 = (b || le) := ⟨_, rfl⟩
          rw [← hb2] at RS1 ⊢
          have f0 := E4.out.cell C0.out
          clear hO4 hb4 hw4 hb2 HINS HO1 O3 HO
          by_cases hxs : x = s
          · have q1 : (x == s) = true := by rw [hxs]; exact beq_self_eq_true _
            have RS2 := Lib.hid (show out1 ++ Sp.put18 s b2 (l.drop (k + 1)) = Sp.put18 s false l by rw [← RS1.out, if_pos hxs, List.nil_append])
            clear hxs
            go_wp2
            go_roundw
            case rel => exact ⟨k + 1, out1, b2, by omega, rfl, by go_num, O4.out, by omega, RS2.out, E4.out⟩
            case measure => simp [intOf]; omega
          · have q1 : (x == s) = false := by rw [beq_eq_false_iff_ne]; exact hxs
            have RS2 := Lib.hid (show (out1 ++ [x]) ++ Sp.put18 s b2 (l.drop (k + 1)) = Sp.put18 s false l by rw [← RS1.out, if_neg hxs, List.append_assoc])
            have tokA : True := trivial
            clear hxs
            go_wp2_with (have _t := tokA; at_builtin; refine app_new appStr rfl _ _ rfl w.heap.size _ out1.length _ rfl O4.out #[.string (strOf x)] 9 1 rfl rfl (by intro u hu; simp at hu; subst hu; rfl) (by decide) (by omega) E4.out.size ?_; intro g9 cap9 w9 hown9 hgr9 hb9 hbg9; have O9 := Lib.hid hown9; have B9 := Lib.hid (Below.trans E4.out hb9); clear tokA _t hown9 hgr9 hb9 hbg9)
            go_roundw
            case rel =>
              refine ⟨k + 1, out1 ++ [x], b2, by omega, rfl, by go_num, ?_, by rw [List.length_append, List.length_singleton]; omega, RS2.out, B9.out⟩
              rw [List.length_append, strsC, List.map_append]
              exact O9.out
            case measure => simp [intOf]; omega
    · obtain rfl : k = l.length := by omega
      rw [List.drop_length, Sp.put18] at hr
      cases b with
      | true =>
        have R := Lib.hid (show Sp.put18 s false l = out by rw [← hr]; simp)
        clear ho hr hb
        go_wp2
        go_ret
        rw [R.out]
        exact ⟨_, rfl, HO.out, HB.out⟩
      | false =>
        have R := Lib.hid (show Sp.put18 s false l = out ++ [s] by rw [← hr]; simp)
        have tokA : True := trivial
        clear ho hr hb
        go_wp2_with (have _t := tokA; at_builtin; refine app_new appStr rfl _ _ rfl w.heap.size _ out.length _ rfl HO.out #[.string (strOf s)] 9 1 rfl rfl (by intro u hu; simp at hu; subst hu; rfl) (by decide) (by omega) HB.out.size ?_; intro g9 cap9 w9 hown9 hgr9 hb9 hbg9; have B9 := Lib.hid (show Ext w w9 from Below.trans HB.out hb9); obtain ⟨v9, hv9⟩ : ∃ v9, v9 = Value.slice (some ⟨g9, 0, none⟩) (out.length + 1) cap9 := ⟨_, rfl⟩; rw [← hv9] at hown9 ⊢; have O9 := Lib.hid hown9; clear tokA _t hown9 hgr9 hb9 hbg9 hv9)
        have O10 : w9.ownsRow w.heap.size 9 1 v9 (Sp.put18 s false l).length (strsC (Sp.put18 s false l)) := by
          rw [R.out, show strsC (out ++ [s]) = strsC out ++ [.string (strOf s)] from List.map_append .., List.length_append]
          exact O9.out
        have O11 := Lib.hid O10
        clear O10 O9
        go_ret
        exact ⟨_, rfl, O11.out, B9.out⟩
end Go.Proofs.YtmlfnidckfeebaaGreatDoor
namespace Go.Proofs.YtmlfnidckfeebaaGreatDoor
open Go.RowKit Go.Shelf
attribute [local go_sem] yUpon strOf_toList
namespace Sp
theorem put18_mem (s : Bs) : ∀ (l : List Bs) (b : Bool) (x : Bs), x ∈ put18 s b l → x = s ∨ x ∈ l
  | [], b, x, h => by
    rw [put18] at h
    split at h
    · cases h
    · exact .inl (List.mem_singleton.1 h)
  | y :: r, b, x, h => by
    rw [put18] at h
    rcases List.mem_append.1 h with h | h
    · rcases List.mem_append.1 h with h | h
      · split at h
        · exact .inl (List.mem_singleton.1 h)
        · cases h
      · split at h
        · cases h
        · exact .inr (List.mem_cons.2 (.inl (List.mem_singleton.1 h)))
    · rcases put18_mem s r _ x h with h | h
      · exact .inl h
      · exact .inr (List.mem_cons_of_mem _ h)
def belowS (d : Bs) (l : List DE) : List Bs := l.foldl (fun out e => if under e.1 d = true then put18 ((parts e.1).getD (parts d).length []) false out else out) []
theorem belowS_take (d : Bs) (l : List DE) (k : Nat) (h : k < l.length) : belowS d (l.take (k + 1)) = if under l[k].1 d = true then put18 ((parts l[k].1).getD (parts d).length []) false (belowS d (l.take k)) else belowS d (l.take k) := by
  unfold belowS
  rw [List.take_succ_eq_append_getElem h, List.foldl_append]
  rfl
theorem belowS_len (d : Bs) (l : List DE) : ∀ k, k ≤ l.length → (belowS d (l.take k)).length ≤ k
  | 0, _ => by rw [List.take_zero]; exact Nat.le_refl _
  | k + 1, h => by
    have ih := belowS_len d l k (by omega)
    rw [belowS_take d l k (by omega)]
    split
    · have := put18_len ((parts (l[k]'(by omega)).1).getD (parts d).length []) (belowS d (l.take k)) false
      omega
    · omega
end Sp
theorem entsC_cat2 (a b : List (Option Addr × Nat × Sp.DE)) : entsC (a ++ b) = entsC a ++ entsC b := by
  induction a with
  | nil => rfl
  | cons x r ih => rw [List.cons_append, entsC, ih, entsC, List.append_assoc]
set_option maxRecDepth 100000 in
set_option maxHeartbeats 4000000 in
theorem below18_calls (ma mb : List Sp.DE) (A B : Option Addr) (cap cap' : Nat) (d : Sp.Bs) (hdl : d.length ≤ 1000) (w : World) (hA : EntsAt w A ma) (hB : EntsAt w B mb) (la : ma.length ≤ 128) (lb : mb.length ≤ 128) (pa : ∀ e ∈ ma, e.1.length ≤ 1000000) (pb : ∀ e ∈ mb, e.1.length ≤ 1000000) (hn : ∀ e ∈ ma ++ mb, ∀ x ∈ Sp.parts e.1, x.length ≤ 1000000) :
    Calls Tryz.prog 142 #[.slice A ma.length cap, .slice B mb.length cap', .string (strOf d)] w fun e w' => ∃ v, e = .returned v ∧ w'.ownsRow w.heap.size 9 1 v (Sp.belowS d (ma ++ mb)).length (strsC (Sp.belowS d (ma ++ mb))) ∧ Ext w w' := by
  have HA := Lib.hid hA
  have HB := Lib.hid hB
  have HN := Lib.hid hn
  have PL := Lib.hid (show ∀ e ∈ ma ++ mb, e.1.length ≤ 1000000 from fun e he => (List.mem_append.1 he).elim (pa e) (pb e))
  have TK0 := Lib.hid fun k h => Sp.belowS_take d (ma ++ mb) k h
  have BL := Lib.hid fun k h => Sp.belowS_len d (ma ++ mb) k h
  obtain ⟨l, hl⟩ : ∃ l, l = ma ++ mb := ⟨_, rfl⟩
  have ll : l.length = 0 + ma.length + mb.length := by rw [hl, List.length_append]; omega
  rw [← hl] at TK0 BL HN PL ⊢
  have HL := Lib.hid hl
  clear hA hB hn pa pb hl
  go_enter Tryz.func142, Tryz.ntmps142
  go_wp2_with fail
  refine (rpparts_calls d w (by omega)).mono ?_
  rintro e w1 ⟨A1, c1, rfl, _, hb1⟩
  have E1 := Lib.hid hb1
  have dp4 := Sp.parts_len d
  have TK := TK0
  clear TK0
  obtain ⟨dp, hdp⟩ : ∃ dp, dp = (Sp.parts d).length := ⟨_, rfl⟩
  rw [← hdp] at TK dp4 ⊢
  have HDP := Lib.hid hdp
  clear hb1 hdp
  obtain ⟨m1, ha1, ha2, ha3⟩ := HA.out.ext E1.out
  obtain ⟨m2, hb1, hb2, hb3⟩ := HB.out.ext E1.out
  have l1 : m1.length = ma.length := by rw [← ha1, List.length_map]
  have l2 : m2.length = mb.length := by rw [← hb1, List.length_map]
  have CA := Lib.hid ha2
  have CB := Lib.hid hb2
  have VA := Lib.hid ha3
  have VB := Lib.hid hb3
  have MA := Lib.hid ha1
  have MB := Lib.hid hb1
  have L1 := Lib.hid l1
  have L2 := Lib.hid l2
  have tokA : True := trivial
  have tokB : True := trivial
  clear ha1 ha2 ha3 hb1 hb2 hb3 l1 l2
  go_upto_region 4 with (first
    | (have _t := tokA; at_builtin; refine app_cells appEnt rfl _ _ rfl w1.heap.size _ 0 [] rfl (World.ownsRow_made w1 #[] 0 (Nat.le_refl _) (Nat.zero_le _) rfl) A ma.length cap (entsC m1) rfl (by rw [entsC_len, L1.out]) (CA.out.ext (Ext.alloc w1 _)) (entsC_one m1) (by omega) (by simp) ?_; intro v3 w3 hown3 hgr3 hb3; have O3 := Lib.hid hown3; have B3 := Lib.hid (show Ext w1 w3 from Below.trans (Ext.alloc w1 _) hb3); clear tokA _t hown3 hgr3 hb3)
    | (have _t := tokB; at_builtin; refine app_cells appEnt rfl _ _ rfl w1.heap.size _ (0 + ma.length) _ rfl O3.out B mb.length cap' (entsC m2) rfl (by rw [entsC_len, L2.out]) (CB.out.ext B3.out) (entsC_one m2) (by omega) B3.out.size ?_; intro v4 w4 hown4 hgr4 hb4; have O4 := Lib.hid hown4; have B4 := Lib.hid (show Ext w1 w4 from Below.trans B3.out hb4); clear tokB _t hown4 hgr4 hb4))
  rw [← ll] at O4
  obtain ⟨A5, c5, rfl, hc5⟩ := own_read O4.out
  have E5 := Lib.hid (show EntsAt w4 A5 l from ⟨m1 ++ m2, by rw [List.map_append, MA.out, MB.out, HL.out], by rw [entsC_cat2]; exact hc5, fun x hx => by
    rcases List.mem_append.1 hx with h | h
    · exact (VA.out x h).ext B4.out
    · exact (VB.out x h).ext B4.out⟩)
  have l256 : l.length ≤ 256 := by omega
  have B5 := Lib.hid (E1.out.trans B4.out)
  clear ll hc5 O3 O4 CA CB VA VB MA MB L1 L2 B3
  go_wp2
  go_loopw [7, 10] (fun v7 v10 wr => ∃ k : Nat, k ≤ l.length ∧ v10 = .int .i64 k ∧ wr.ownsRow w.heap.size 9 1 v7 (Sp.belowS d (l.take k)).length (strsC (Sp.belowS d (l.take k))) ∧ (∀ x ∈ Sp.belowS d (l.take k), x.length ≤ 1000000) ∧ Ext w4 wr) (fun _ v10 _ => l.length - (intOf v10).toNat)
  case atStart => exact ⟨0, Nat.zero_le _, rfl, World.ownsRow_nil _ _ _ _, (fun x h => by cases h), Ext.refl _⟩
  case round =>
    obtain ⟨k, hk, rfl, hN, hX, hb⟩ := hrel
    have HB := Lib.hid hb
    have HO := Lib.hid hN
    have HX := Lib.hid hX
    by_cases hlt : k < l.length
    · obtain ⟨eb, eo, rfl, he⟩ := E5.out.at (by omega)
      obtain ⟨Av, cv, c0, c1x, c2x⟩ := he k hlt
      have C0 := Lib.hid c0
      have f0 := hb.cell c0
      have ST := Lib.hid (TK.out k hlt)
      have nl := BL.out k (by omega)
      have XL := PL.out _ (List.getElem_mem hlt)
      have XN := Lib.hid (HN.out _ (List.getElem_mem hlt))
      obtain ⟨x, hx⟩ : ∃ x, x = l[k] := ⟨_, rfl⟩
      rw [← hx] at C0 f0 ST XL XN
      obtain ⟨out, hout⟩ : ∃ out, out = Sp.belowS d (l.take k) := ⟨_, rfl⟩
      rw [← hout] at HO HX ST nl
      have kb : (k : Int) < (l.length : Int) := by omega
      clear hN hX hb he c0 c1x c2x hx hout
      go_wp2_with fail
      refine (under_calls x.1 d wr XL (by omega)).mono ?_
      rintro e w6 ⟨rfl, hb6⟩
      have B6 := Lib.hid (HB.out.trans hb6)
      have O6 := Lib.hid (own_ext HO.out hb6)
      obtain ⟨u, hu⟩ : ∃ u, u = Sp.under x.1 d := ⟨_, rfl⟩
      rw [← hu] at ST ⊢
      have HU := Lib.hid hu
      clear hb6 f0 hu
      have f0 := B6.out.cell C0.out
      cases u with
      | false =>
        have ST2 := Lib.hid (show Sp.belowS d (l.take (k + 1)) = out by rw [ST.out]; simp)
        go_wp2
        go_roundw
        case rel => exact ⟨k + 1, by omega, by go_num, by rw [ST2.out]; exact O6.out, by rw [ST2.out]; exact HX.out, B6.out⟩
        case measure => simp [intOf]; omega
      | true =>
        have SP2 := Sp.under_parts HU.out.symm
        go_wp2_with fail
        refine (rpparts_calls x.1 w6 XL).mono ?_
        rintro e w7 ⟨A7, c7, rfl, hN7, hb7⟩
        obtain ⟨P, hP⟩ : ∃ P, P = Sp.parts x.1 := ⟨_, rfl⟩
        have hP4 := Sp.parts_len x.1
        rw [← hP] at hN7 ST XN hP4 SP2 ⊢
        have hlt2 : dp < P.length := by rw [HDP.out]; exact SP2.2.2.1
        obtain ⟨pb, po, rfl, hpn⟩ := hN7.at (by omega)
        have p0 := hpn dp hlt2
        have ST2 := Lib.hid (show Sp.belowS d (l.take (k + 1)) = Sp.put18 (P[dp]'hlt2) false out by
          rw [ST.out]
          simp [List.getD_eq_getElem?_getD, hlt2])
        have SL := XN.out _ (List.getElem_mem hlt2)
        obtain ⟨s, hs⟩ : ∃ s, s = P[dp]'hlt2 := ⟨_, rfl⟩
        rw [← hs] at p0 ST2 SL
        have B7 := Lib.hid (B6.out.trans hb7)
        obtain ⟨C, c, rfl, hc9⟩ := own_read (own_ext O6.out hb7)
        have N7 := Lib.hid (show Nams w7 C out from hc9)
        have b2 : (dp : Int) < (P.length : Int) := by omega
        clear hN7 hb7 hpn hs hP SP2 ST hc9
        go_wp2_with fail
        refine (put18_own out C c s w7 N7.out (by omega) HX.out SL).mono ?_
        rintro e w8 ⟨v8, rfl, hO8, hb8⟩
        have O8 := Lib.hid (own_lower hO8 (show w.heap.size ≤ w7.heap.size from (B5.out.trans B7.out).size))
        have B8 := Lib.hid (B7.out.trans hb8)
        clear hO8 hb8
        go_wp2
        go_roundw
        case rel =>
          refine ⟨k + 1, by omega, by go_num, by rw [ST2.out]; exact O8.out, fun y hy => ?_, B8.out⟩
          rw [ST2.out] at hy
          rcases Sp.put18_mem s out false y hy with rfl | h
          · exact SL
          · exact HX.out y h
        case measure => simp [intOf]; omega
    · obtain rfl : k = l.length := by omega
      rw [List.take_length] at hN
      have O9 := Lib.hid hN
      clear hX HX HO hN
      go_wp2
      go_ret
      exact ⟨_, rfl, O9.out, B5.out.trans HB.out⟩
end Go.Proofs.YtmlfnidckfeebaaGreatDoor
namespace Go.Proofs.YtmlfnidckfeebaaGreatDoor
open Go.RowKit
section
variable {P : Program} {ops : Array Oper} {rest : List Oper} {o : Oper} {a : Act} {Q : Exit → Act → World → Prop} {w : World}
theorem app_where {t e : TypeId} {size bytes : Nat} (hst : AppStat P t e size bytes) (hgd : o.guard = none) (s x : Operand) (ho : o.op = .call { callee := .builtin .append, args := #[s, x], argTypes := #[t, t] })
    (base : Nat) (v : Value) (n : Nat) (xs : List Value) (hs : a.eval s = v) (hown : w.ownsRow base e size v n xs) (gx ox m c : Nat) (news : List Value)
    (hx : a.eval x = .slice (some ⟨gx, ox, none⟩) m c) (hm : 0 < m) (hl : news.length = m * size) (hX : ∀ j u, news[j]? = some u → w.cell? ⟨gx, ox + j, none⟩ = some u) (h1 : ∀ u ∈ news, u.oneCell' = true) (hcap : (n + m) * bytes ≤ 140737488355328) (hbase : base ≤ w.heap.size)
    (h : ∀ v' w', w'.ownsRow base e size v' (n + m) (xs ++ news) → w.grownBy w' v.ownBlock → Below base w w' → (v'.ownBlock = v.ownBlock ∨ ∃ k, w.heap.size ≤ k ∧ v'.ownBlock = some k) → wpList P ops Q rest (a.put o.dst v') w') : wpList P ops Q (o :: rest) a w := by
  obtain ⟨ht, hz0, hb0, i, z, hi, hz, hsz, hby, hzs⟩ := hst
  have hmax : n + m ≤ maxLen := by
    have : n + m ≤ (n + m) * bytes := Nat.le_mul_of_pos_right _ hb0
    unfold maxLen; omega
  have hX' : ∀ j u, news[j]? = some u → w.cell? ((⟨gx, ox, none⟩ : Addr).add j) = some u := fun j u hj => by
    have := hX j u hj
    cases j <;> simpa [Addr.add] using this
  obtain ⟨v', w', hrun, hown', hg, _⟩ := run_append_own w base t o.type e i z size bytes ht hi hz hsz hby hzs hz0 v n xs hown ⟨gx, ox, none⟩ m c news hl hX' h1 hmax hcap hbase
  have hm2 : n + m ≤ 9223372036854775807 := by unfold maxLen at hmax; omega
  have hw : v'.ownBlock = v.ownBlock ∨ ∃ k, w.heap.size ≤ k ∧ v'.ownBlock = some k := by
    rcases hown.2 with ⟨rfl, rfl⟩ | ⟨g, cap, cur, rfl, _, hgg, hnc, _, hcs, _⟩
    · rw [Nat.zero_add] at hcap
      have hr := run_append_nil (P := P) w t o.type e i z ht hi hz ⟨gx, ox, none⟩ m c news (by rw [hsz]; exact hl) hX' hm (by omega) (by rw [hby]; omega)
      rw [hr] at hrun
      cases hrun
      exact .inr ⟨_, Nat.le_refl _, rfl⟩
    · by_cases hroom : n + m ≤ cap
      · have hr := run_append_room (P := P) w t o.type e i ht hi g n cap cur hgg ⟨gx, ox, none⟩ m c news (by rw [hsz]; exact hl) hX' h1 hroom (by rw [hl, hcs, hsz, ← Nat.add_mul]; exact Nat.mul_le_mul_right _ hroom)
        rw [hr] at hrun
        cases hrun
        exact .inl rfl
      · have hr := run_append_grow (P := P) w t o.type e i z ht hi hz ⟨g, 0, none⟩ n cap xs (by rw [hsz]; exact hown.1) (hown.cells (g := g) rfl) ⟨gx, ox, none⟩ m c news (by rw [hsz]; exact hl) hX' (by omega) (by omega) (by rw [hby]; exact growslice_fits (by omega) hcap)
        rw [hr] at hrun
        cases hrun
        exact .inr ⟨_, Nat.le_refl _, rfl⟩
  refine Lib.wpList_append_run w hgd s x t t ho v _ hs hx v' w' hrun (h v' w' hown' hg ((Below.refl _ _).grown hg hbase fun k hk => ?_) hw)
  exact (hown.lt k hk).1
end
end Go.Proofs.YtmlfnidckfeebaaGreatDoor
