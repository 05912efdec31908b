/- Walks: the names right below a directory, the document's. Walks: whether the document's tree has a node at a directory. Walks: which of two paths stands ahead, the reference's. -/
import Derived.Test.YtmlfnidckfeebaaGreatDoorM29
import Derived.Test.YtmlfnidckfeebaaGreatDoorM01
import Derived.Test.YtmlfnidckfeebaaGreatDoorM21
namespace Go.Proofs.YtmlfnidckfeebaaGreatDoor
open Go.RowKit Go.Shelf
attribute [local go_sem] yUpon strOf_toList
namespace Sp
def nxt (out : List Bs) (s : Bs) : List Bs := if out.getLast? = some s then out else out ++ [s]
theorem under_lt {p d : Bs} (h : under p d = true) : (parts d).length < (parts p).length := by
  unfold under at h
  simp only [Bool.and_eq_true, decide_eq_true_eq] at h
  exact h.1.2
end Sp
set_option maxRecDepth 100000 in
set_option maxHeartbeats 4000000 in
theorem rnames_own (l : List Sp.DE) (A : Option Addr) (cap : Nat) (d : Sp.Bs) (w : World) (h : EntsAt w A l) (hl : l.length ≤ 1000000) (hpl : ∀ e ∈ l, e.1.length ≤ 1000000) (hdl : d.length ≤ 1000000) :
    Calls Tryz.prog 150 #[.slice A l.length cap, .string (strOf d)] w fun e w' => ∃ v, e = .returned v ∧ w'.ownsRow w.heap.size 9 1 v (Sp.rnames d [] l).length (strsC (Sp.rnames d [] l)) ∧ Ext w w' := by
  have HH := Lib.hid h
  have HPL := Lib.hid hpl
  clear h hpl
  go_enter Tryz.func150, Tryz.ntmps150
  go_wp2
  go_loopw [5, 6] (fun v5 v6 wr => ∃ (k : Nat) (out : List Sp.Bs) (v : Value), k ≤ l.length ∧ v = v5 ∧ v6 = .int .i64 k ∧ out.length ≤ k ∧ wr.ownsRow w.heap.size 9 1 v out.length (strsC out) ∧ Sp.rnames d out (l.drop k) = Sp.rnames d [] l ∧ Ext w wr) (fun _ v6 _ => l.length - (intOf v6).toNat)
  case atStart => exact ⟨0, [], _, Nat.zero_le _, rfl, rfl, Nat.le_refl _, World.ownsRow_nil _ _ _ _, rfl, Ext.refl _⟩
  case round =>
    obtain ⟨k, out, v, hk2, rfl, rfl, hol, ho, hr, hb⟩ := hrel
    have HO := Lib.hid ho
    have HB := Lib.hid hb
    clear ho hb
    by_cases hlt : k < l.length
    · obtain ⟨eb, eo, rfl, he⟩ := HH.out.at (by omega)
      obtain ⟨Av, cv, c0, _, _⟩ := he k hlt
      obtain ⟨x, hx⟩ : ∃ x, x = l[k] := ⟨_, rfl⟩
      have RS := Lib.hid (show (if Sp.under x.1 d = true then Sp.rnames d (Sp.nxt out ((Sp.parts x.1).getD (Sp.parts d).length [])) (l.drop (k + 1)) else Sp.rnames d out (l.drop (k + 1))) = Sp.rnames d [] l by
        rw [← hr, List.drop_eq_getElem_cons hlt, hx]; rfl)
      have XL := Lib.hid (show x.1.length ≤ 1000000 by rw [hx]; exact HPL.out _ (List.getElem_mem hlt))
      rw [← hx] at c0
      have C0 := Lib.hid c0
      have x0 := HB.out.cell c0
      have b1 : (k : Int) < (l.length : Int) := by omega
      clear hr he hx c0
      go_wp2_with fail
      refine (under_calls x.1 d wr XL.out hdl).mono ?_
      rintro e w1 ⟨rfl, hb1⟩
      have B1 := Lib.hid (show Ext wr w1 from hb1)
      clear hb1 x0
      by_cases hu : Sp.under x.1 d = true
      · have RS2 := Lib.hid (show Sp.rnames d (Sp.nxt out ((Sp.parts x.1).getD (Sp.parts d).length [])) (l.drop (k + 1)) = Sp.rnames d [] l by rw [← RS.out, if_pos hu])
        have LT := Lib.hid (Sp.under_lt hu)
        have x1 := (HB.out.trans B1.out).cell C0.out
        rw [hu]
        clear hu
        go_wp2_with fail
        refine (rparts_calls (strOf x.1) w1 (by rw [strOf_size]; have := XL.out; omega)).mono ?_
        intro e w2 ht
        obtain ⟨A2, c2, rfl, _, hN2, hb2⟩ := ht.nams
        rw [strOf_data] at hN2 ⊢
        have N2 := Lib.hid hN2
        have B2 := Lib.hid (show Ext wr w2 from B1.out.trans hb2)
        clear ht hN2 hb2 x1
        go_wp2_with fail
        refine (rparts_calls (strOf d) w2 (by rw [strOf_size]; omega)).mono ?_
        intro e w3 ht
        obtain ⟨A3, c3, rfl, _, _, hb3⟩ := ht.nams
        rw [strOf_data] at ⊢
        have B3 := Lib.hid (show Ext wr w3 from B2.out.trans hb3)
        have N3 := Lib.hid (N2.out.ext hb3)
        have HO3 := Lib.hid (own_ext HO.out B3.out)
        clear ht hb3
        obtain ⟨j, hj⟩ : ∃ j, j = (Sp.parts d).length := ⟨_, rfl⟩
        obtain ⟨P, hP⟩ : ∃ P, P = Sp.parts x.1 := ⟨_, rfl⟩
        rw [← hj, ← hP] at LT RS2
        rw [← hP] at N3
        rw [← hj, ← hP]
        have hjP := LT.out
        obtain ⟨a2, o2, rfl, hn2⟩ := N3.out.at (by omega)
        obtain ⟨s, hs⟩ : ∃ s, s = P[j] := ⟨_, rfl⟩
        have s1 := hn2 j hjP
        rw [← hs] at s1
        have RS3 := Lib.hid (show Sp.rnames d (Sp.nxt out s) (l.drop (k + 1)) = Sp.rnames d [] l by
          rw [← RS2.out, List.getD_eq_getElem?_getD, List.getElem?_eq_getElem hjP, ← hs]; rfl)
        have d1 : (j : Int) < (P.length : Int) := by omega
        have E3 := Lib.hid (HB.out.trans B3.out)
        clear hj hP hn2 hs
        by_cases h0 : out = []
        · subst h0
          have NX := Lib.hid (show Sp.nxt [] s = [s] from rfl)
          rcases own_form HO3.out with ⟨rfl, _, _⟩ | ⟨go, co, rfl, _, _⟩
          · go_wp2_with (at_builtin; refine app_new appStr rfl _ _ rfl w.heap.size _ 0 _ rfl HO3.out #[.string (strOf s)] 9 1 rfl rfl (by intro u hu; simp at hu; subst hu; rfl) (by decide) (by omega) E3.out.size ?_; intro g4 cap4 w4 hown4 hgr4 hb4 hbg4; have O4 := Lib.hid hown4; have B4 := Lib.hid (Below.trans E3.out hb4); clear hown4 hgr4 hb4 hbg4)
            refine ⟨⟨k + 1, [s], _, by omega, rfl, by go_num, by simp, O4.out, by rw [← RS3.out, NX.out], B4.out⟩, by simp [intOf]; omega⟩
          · go_wp2_with (at_builtin; refine app_new appStr rfl _ _ rfl w.heap.size _ 0 _ rfl HO3.out #[.string (strOf s)] 9 1 rfl rfl (by intro u hu; simp at hu; subst hu; rfl) (by decide) (by omega) E3.out.size ?_; intro g4 cap4 w4 hown4 hgr4 hb4 hbg4; have O4 := Lib.hid hown4; have B4 := Lib.hid (Below.trans E3.out hb4); clear hown4 hgr4 hb4 hbg4)
            refine ⟨⟨k + 1, [s], _, by omega, rfl, by go_num, by simp, O4.out, by rw [← RS3.out, NX.out], B4.out⟩, by simp [intOf]; omega⟩
        · have hn0 : out.length ≠ 0 := fun h => h0 (List.eq_nil_of_length_eq_zero h)
          obtain ⟨m, hm⟩ : ∃ m, m = out.length - 1 := ⟨_, rfl⟩
          have hml : m < out.length := by omega
          have w1 : IntKind.i64.wrap ((out.length : Int) - 1) = (m : Int) := by rw [IntKind.wrap_i64]; omega
          have e0 : ((out.length : Int) == 0) = false := by rw [beq_eq_false_iff_ne]; omega
          have d2 : (m : Int) < (out.length : Int) := by omega
          obtain ⟨y, hy⟩ : ∃ y, y = out[m] := ⟨_, rfl⟩
          have GL := Lib.hid (show out.getLast? = some y by rw [List.getLast?_eq_getElem?, ← hm, List.getElem?_eq_getElem hml, hy])
          rcases own_form HO3.out with ⟨_, h1, _⟩ | ⟨go, co, rfl, _, _⟩
          · exact absurd h1 hn0
          have y1 := (own_isBlk HO3.out m (.string (strOf y)) (by rw [strsC, List.getElem?_map, List.getElem?_eq_getElem hml, ← hy]; rfl)).1
          have HN0 := Lib.hid hn0
          clear h0 hy hm hn0
          by_cases hys : y = s
          · have e1 : (y == s) = true := by rw [hys]; exact beq_self_eq_true _
            have NX := Lib.hid (show Sp.nxt out s = out by rw [Sp.nxt, if_pos (by rw [GL.out, hys])])
            clear hys
            go_wp2
            refine ⟨⟨k + 1, out, _, by omega, rfl, by go_num, by omega, HO3.out, by rw [← RS3.out, NX.out], E3.out⟩, by simp [intOf]; omega⟩
          · have e1 : (y == s) = false := by rw [beq_eq_false_iff_ne]; exact hys
            have NX := Lib.hid (show Sp.nxt out s = out ++ [s] by rw [Sp.nxt, if_neg (by rw [GL.out]; intro h; exact hys (Option.some.inj h))])
            clear hys
            go_wp2_with (at_builtin; refine app_new appStr rfl _ _ rfl w.heap.size _ out.length _ rfl HO3.out #[.string (strOf s)] 9 1 rfl rfl (by intro u hu; simp at hu; subst hu; rfl) (by decide) (by omega) E3.out.size ?_; intro g4 cap4 w4 hown4 hgr4 hb4 hbg4; have O4 := Lib.hid hown4; have B4 := Lib.hid (Below.trans E3.out hb4); clear hown4 hgr4 hb4 hbg4)
            refine ⟨⟨k + 1, out ++ [s], _, by omega, rfl, by go_num, by simp; omega, ?_, by rw [← RS3.out, NX.out], B4.out⟩, by simp [intOf]; omega⟩
            have := O4.out
            rw [List.length_append, strsC, List.map_append]
            exact this
      · have hu2 : Sp.under x.1 d = false := by simpa using hu
        have RS2 := Lib.hid (show Sp.rnames d out (l.drop (k + 1)) = Sp.rnames d [] l by rw [← RS.out, if_neg hu])
        rw [hu2]
        clear hu hu2
        go_wp2
        refine ⟨⟨k + 1, out, _, by omega, rfl, by go_num, by omega, own_ext HO.out B1.out, RS2.out, HB.out.trans B1.out⟩, by simp [intOf]; omega⟩
    · obtain rfl : k = l.length := by omega
      rw [List.drop_length] at hr
      have RG := Lib.hid (show out = Sp.rnames d [] l from hr)
      clear hr
      go_wp2
      go_ret
      rw [← RG.out]
      exact ⟨_, rfl, HO.out, HB.out⟩
theorem rnames_calls (l : List Sp.DE) (A : Option Addr) (cap : Nat) (d : Sp.Bs) (w : World) (h : EntsAt w A l) (hl : l.length ≤ 1000000) (hpl : ∀ e ∈ l, e.1.length ≤ 1000000) (hdl : d.length ≤ 1000000) :
    Calls Tryz.prog 150 #[.slice A l.length cap, .string (strOf d)] w fun e w' => ∃ B c, e = .returned (.slice B (Sp.rnames d [] l).length c) ∧ Nams w' B (Sp.rnames d [] l) ∧ Ext w w' :=
  (rnames_own l A cap d w h hl hpl hdl).mono (by
    rintro e w' ⟨v, rfl, hO, hb⟩
    obtain ⟨B, c, rfl, hc⟩ := own_read hO
    exact ⟨B, c, rfl, hc, hb⟩)
end Go.Proofs.YtmlfnidckfeebaaGreatDoor
namespace Go.Proofs.YtmlfnidckfeebaaGreatDoor
open Go.RowKit Go.Shelf
attribute [local go_sem] yUpon strOf_toList
namespace Sp
def rthere (l : List DE) (d : Bs) : Bool := decide (d = []) || (decide (rget l d ≠ []) || decide (rnames d [] l ≠ []))
end Sp
set_option maxRecDepth 100000 in
set_option maxHeartbeats 4000000 in
theorem rthere_calls (l : List Sp.DE) (A : Option Addr) (cap : Nat) (d : Sp.Bs) (w : World) (h : EntsAt w A l) (hl : l.length ≤ 1000000) (hpl : ∀ e ∈ l, e.1.length ≤ 1000000) (hdl : d.length ≤ 1000000) :
    Calls Tryz.prog 216 #[.slice A l.length cap, .string (strOf d)] w fun e w' => e = .returned (.bool (Sp.rthere l d)) ∧ Ext w w' := by
  have GC := Lib.hid (rget_calls l A cap d w h hl)
  have NC := Lib.hid (rnames_calls l A cap d w h hl hpl hdl)
  clear h hpl
  go_enter Tryz.func216, Tryz.ntmps216
  by_cases hd : d = []
  · subst hd
    have c1 : (([] : List UInt8).isEmpty) = true := rfl
    go_wp2
    go_ret
    exact ⟨ret_bool (by simp [Sp.rthere]), Ext.refl _⟩
  · have c5 : d.isEmpty = false := by cases d with | nil => exact absurd rfl hd | cons _ _ => rfl
    have c6 : (d == []) = false := by rw [beq_eq_false_iff_ne]; exact hd
    have HD := Lib.hid hd
    clear hd
    go_wp2_with fail
    refine GC.out.mono ?_
    rintro e w1 ⟨Av, cv, rfl, _, rfl⟩
    by_cases hg : Sp.rget l d = []
    · rw [hg]
      have HG := Lib.hid hg
      clear hg
      go_wp2_with fail
      refine NC.out.mono ?_
      rintro e w2 ⟨B, c, rfl, _, hb⟩
      have HB := Lib.hid hb
      clear hb
      by_cases hn : Sp.rnames d [] l = []
      · rw [hn]
        have HN := Lib.hid hn
        clear hn
        go_wp2
        go_ret
        exact ⟨ret_bool (by simp [Sp.rthere, HG.out, HN.out, HD.out]), HB.out⟩
      · have HN := Lib.hid hn
        have n0 : 0 < (Sp.rnames d [] l).length := Nat.pos_of_ne_zero fun h => hn (List.eq_nil_of_length_eq_zero h)
        obtain ⟨n, hnn⟩ : ∃ n, n = (Sp.rnames d [] l).length := ⟨_, rfl⟩
        rw [← hnn] at n0 ⊢
        have n1 : (0 : Int) < (n : Int) := by omega
        clear hn hnn
        go_wp2
        go_ret
        exact ⟨ret_bool (by simp [Sp.rthere, HG.out, HN.out]), HB.out⟩
    · have HG := Lib.hid hg
      have n0 : 0 < (Sp.rget l d).length := Nat.pos_of_ne_zero fun h => hg (List.eq_nil_of_length_eq_zero h)
      obtain ⟨n, hnn⟩ : ∃ n, n = (Sp.rget l d).length := ⟨_, rfl⟩
      rw [← hnn] at n0 ⊢
      have n1 : (0 : Int) < (n : Int) := by omega
      clear hg hnn
      go_wp2
      go_ret
      exact ⟨ret_bool (by simp [Sp.rthere, HG.out]), Ext.refl _⟩
end Go.Proofs.YtmlfnidckfeebaaGreatDoor
namespace Go.Proofs.YtmlfnidckfeebaaGreatDoor
open Go.RowKit
attribute [local go_sem] yUpon
theorem bytesLess_list : ∀ (x y : List UInt8), Op.bytesLess x y = decide (Lib.compareBytes x y = -1)
  | [], [] => rfl
  | [], _ :: _ => rfl
  | _ :: _, [] => rfl
  | a :: x, b :: y => by
    unfold Op.bytesLess Lib.compareBytes
    by_cases h1 : a < b
    · simp [h1]
    · by_cases h2 : b < a
      · simp [h1, h2]
        rintro rfl; exact absurd h2 (UInt8.lt_irrefl _)
      · have : a = b := UInt8.le_antisymm (UInt8.not_lt.1 h2) (UInt8.not_lt.1 h1)
        simp [bytesLess_list x y, this]
theorem less_of (a b : ByteArray) : Op.bytesLess a.toList b.toList = decide (Lib.compareBytes a.data.toList b.data.toList = -1) := by rw [toList_data, toList_data]; exact bytesLess_list _ _
theorem same_of (a b : ByteArray) : (a.toList == b.toList) = decide (Lib.compareBytes a.data.toList b.data.toList = 0) := by
  rw [toList_data, toList_data, Bool.eq_iff_iff, beq_iff_eq, decide_eq_true_eq, Sp.cmpB_eq]
theorem split_len_le (s : Sp.Bs) : (Sp.split s).length ≤ s.length + 1 := by
  induction s with
  | nil => simp [Sp.split]
  | cons c r ih =>
    unfold Sp.split
    split
    · simp; omega
    · split <;> simp_all <;> omega
theorem pieces_some (s : ByteArray) (w : World) (hs : s.size < 4294967200) : Calls Tryz.prog 87 #[.string s] w fun e w' =>
    Below w.heap.size w w' ∧ ∃ (g cap : Nat) (L : List ByteArray), e = .returned (.slice (some ⟨g, 0, none⟩) L.length cap) ∧ L.map (·.data.toList) = Sp.split s.data.toList ∧ Strs w' g L ∧ w.heap.size ≤ g ∧ L.length ≤ cap ∧ L.length ≤ 4294967201 :=
  (pieces_calls s w hs).mono (by
    rintro e w1 ⟨hb1, (⟨h0, rfl⟩ | ⟨g1, c1, L, hl0, hlc, rfl, hL, hS1, hg1⟩)⟩
    · exact absurd h0 (Sp.split_ne _)
    · have := split_len_le s.data.toList
      rw [← hL, List.length_map] at this
      exact ⟨hb1, g1, c1, L, rfl, hL, hS1, hg1, hlc, by simp at this; omega⟩)
set_option maxRecDepth 100000 in
set_option maxHeartbeats 2000000 in
theorem rcompare_calls (s t : ByteArray) (w : World) (hs : s.size < 4294967200) (ht : t.size < 4294967200) :
    Calls Tryz.prog 30 #[.string s, .string t] w fun e w' => e = .returned (.int .i64 (Sp.compare s.data.toList t.data.toList)) ∧ Below w.heap.size w w' := by
  have S1 := Lib.hid (pieces_some s w hs)
  have S2 := Lib.hid fun w1 => pieces_some t w1 ht
  clear hs ht
  go_enter Tryz.func30, Tryz.ntmps30
  go_wp2_with (first
    | (go_at_call 87; with_reducible refine S1.out.mono ?_; rintro e w1 ⟨hb1, g1, c1, L, rfl, hL, hS1, hg1, hc1, hn1⟩; have HS1 := Lib.hid hS1; have HL := Lib.hid hL; clear hL hS1 S1)
    | (go_at_call 87; refine (S2.out _).mono ?_; rintro e w2 ⟨hb2, g2, c2, M, rfl, hM, hS2, hg2, hc2, hn2⟩; have HS2 := Lib.hid hS2; have HM := Lib.hid hM; clear hM hS2 S2))
  have hbb : Below w.heap.size w w2 := hb1.trans (hb2.mono hb1.size)
  have HC : ∀ k, (h : k < L.length) → w2.cell? ⟨g1, k, none⟩ = some (.string L[k]) := HS1.out.below hb2
  have CD := Lib.hid (show Sp.compare s.data.toList t.data.toList = Sp.cmpP ((L.map (·.data.toList)).drop 0) ((M.map (·.data.toList)).drop 0) by rw [HL.out, HM.out]; rfl)
  have CS := Lib.hid fun k h1 h2 => Sp.cmpP_step L M k h1 h2
  have CE := Lib.hid fun k (h : k = L.length ∨ k = M.length) => Sp.cmpP_end ((L.map (·.data.toList)).drop k) ((M.map (·.data.toList)).drop k) (by
    rcases h with h | h
    · exact .inl (List.drop_eq_nil_of_le (by simp; omega))
    · exact .inr (List.drop_eq_nil_of_le (by simp; omega)))
  go_loopw [7] (fun v7 wr => ∃ k : Nat, k ≤ L.length ∧ k ≤ M.length ∧ v7 = .int .i64 k ∧ Sp.compare s.data.toList t.data.toList = Sp.cmpP ((L.map (·.data.toList)).drop k) ((M.map (·.data.toList)).drop k) ∧ Below w2.heap.size w2 wr) (fun v7 _ => L.length - (intOf v7).toNat)
  case atStart => exact ⟨0, Nat.zero_le _, Nat.zero_le _, rfl, CD.out, Below.refl _ _⟩
  case round =>
    obtain ⟨k, hk, hk2, rfl, hc, hb⟩ := hrel
    by_cases hlt : k < L.length ∧ k < M.length
    · obtain ⟨hl, hm⟩ := hlt
      have c1 := HC k hl
      have c2 : w2.cell? ⟨g2, k, none⟩ = some (.string M[k]) := HS2.out k hm
      have st := CS.out k hl hm
      have e1 := less_of L[k] M[k]
      have e2 := same_of L[k] M[k]
      have E0 := Lib.hid (Sp.cmpB_eq L[k].data.toList M[k].data.toList)
      have rg := Sp.cmpB_range L[k].data.toList M[k].data.toList
      obtain ⟨x, hx⟩ : ∃ x, x = Lib.compareBytes L[k].data.toList M[k].data.toList := ⟨_, rfl⟩
      rw [← hx] at e1 e2 st rg E0
      clear hx HC
      rcases rg with h | h | h
      · have ne : ¬ L[k].data.toList = M[k].data.toList := fun e => absurd (E0.out.2 e) (by omega)
        rw [if_neg ne] at st
        have HCC := Lib.hid (hc.trans (st.trans h))
        rw [h] at e1 e2
        have e1' : Op.bytesLess L[k].toList M[k].toList = true := e1
        clear e1 e2 ne h hc st
        go_wp2_with fail
        refine wp_region_det (fun W => Below w2.heap.size w2 W) (by kernel_rfl) (by kernel_rfl) hb.drew ?_
        repeat (first
          | (refine det_step (fun K hK => ?_)
             apply Exists.intro
             refine ⟨Or.inl ⟨rfl, fun W hS => ?_⟩, ?_⟩
             · have hz : Below w2.heap.size w2 W := hS; have d1 := cellKept c1 hz; have d2 := cellKept c2 hz
               go_simp
               first
               | exact rfl
               | exact ⟨rfl, hS⟩
               | (fail)
             go_simp
             refine hK _ ?_
             clear hK K)
          | (refine det_step (fun K hK => ?_); refine det_no' rfl ?_; go_simp; refine hK _ ?_; clear hK K))
        refine det_nil ?_
        intro W9 hS
        replace hS : Below w2.heap.size w2 W9 := hS
        go_wp2_with fail
        go_ret
        exact ⟨by rw [HCC.out]; rfl, hbb.trans (hS.mono hbb.size)⟩
      · have eq := E0.out.1 h
        rw [if_pos eq] at st
        have HCC := Lib.hid (hc.trans st)
        rw [h] at e1 e2
        have e1' : Op.bytesLess L[k].toList M[k].toList = false := e1
        have e2' : (L[k].toList == M[k].toList) = true := e2
        clear e1 e2 eq h hc st
        go_wp2_with fail
        refine wp_region_det (fun W => Below w2.heap.size w2 W) (by kernel_rfl) (by kernel_rfl) hb.drew ?_
        repeat (first
          | (refine det_step (fun K hK => ?_)
             apply Exists.intro
             refine ⟨Or.inl ⟨rfl, fun W hS => ?_⟩, ?_⟩
             · have hz : Below w2.heap.size w2 W := hS; have d1 := cellKept c1 hz; have d2 := cellKept c2 hz
               go_simp
               first
               | exact rfl
               | exact ⟨rfl, hS⟩
               | (fail)
             go_simp
             refine hK _ ?_
             clear hK K)
          | (refine det_step (fun K hK => ?_); refine det_no' rfl ?_; go_simp; refine hK _ ?_; clear hK K))
        refine det_nil ?_
        intro W9 hS
        replace hS : Below w2.heap.size w2 W9 := hS
        go_wp2_with fail
        refine wp_region_det (fun W => Below w2.heap.size w2 W) (by kernel_rfl) (by kernel_rfl) hS.drew ?_
        repeat (first
          | (refine det_step (fun K hK => ?_)
             apply Exists.intro
             refine ⟨Or.inl ⟨rfl, fun W hS => ?_⟩, ?_⟩
             · have hz : Below w2.heap.size w2 W := hS; have d1 := cellKept c1 hz; have d2 := cellKept c2 hz
               go_simp
               first
               | exact rfl
               | exact ⟨rfl, hS⟩
               | (fail)
             go_simp
             refine hK _ ?_
             clear hK K)
          | (refine det_step (fun K hK => ?_); refine det_no' rfl ?_; go_simp; refine hK _ ?_; clear hK K))
        refine det_nil ?_
        intro W8 hS8
        replace hS8 : Below w2.heap.size w2 W8 := hS8
        go_wp2_with fail
        go_roundw
        case rel => exact ⟨k + 1, by omega, by omega, by go_num, HCC.out, hS8⟩
        case measure => simp [intOf]; omega
      · have ne : ¬ L[k].data.toList = M[k].data.toList := fun e => absurd (E0.out.2 e) (by omega)
        rw [if_neg ne] at st
        have HCC := Lib.hid (hc.trans (st.trans h))
        rw [h] at e1 e2
        have e1' : Op.bytesLess L[k].toList M[k].toList = false := e1
        have e2' : (L[k].toList == M[k].toList) = false := e2
        clear e1 e2 ne h hc st
        go_wp2_with fail
        refine wp_region_det (fun W => Below w2.heap.size w2 W) (by kernel_rfl) (by kernel_rfl) hb.drew ?_
        repeat (first
          | (refine det_step (fun K hK => ?_)
             apply Exists.intro
             refine ⟨Or.inl ⟨rfl, fun W hS => ?_⟩, ?_⟩
             · have hz : Below w2.heap.size w2 W := hS; have d1 := cellKept c1 hz; have d2 := cellKept c2 hz
               go_simp
               first
               | exact rfl
               | exact ⟨rfl, hS⟩
               | (fail)
             go_simp
             refine hK _ ?_
             clear hK K)
          | (refine det_step (fun K hK => ?_); refine det_no' rfl ?_; go_simp; refine hK _ ?_; clear hK K))
        refine det_nil ?_
        intro W9 hS
        replace hS : Below w2.heap.size w2 W9 := hS
        go_wp2_with fail
        refine wp_region_det (fun W => Below w2.heap.size w2 W) (by kernel_rfl) (by kernel_rfl) hS.drew ?_
        repeat (first
          | (refine det_step (fun K hK => ?_)
             apply Exists.intro
             refine ⟨Or.inl ⟨rfl, fun W hS => ?_⟩, ?_⟩
             · have hz : Below w2.heap.size w2 W := hS; have d1 := cellKept c1 hz; have d2 := cellKept c2 hz
               go_simp
               first
               | exact rfl
               | exact ⟨rfl, hS⟩
               | (fail)
             go_simp
             refine hK _ ?_
             clear hK K)
          | (refine det_step (fun K hK => ?_); refine det_no' rfl ?_; go_simp; refine hK _ ?_; clear hK K))
        refine det_nil ?_
        intro W8 hS8
        replace hS8 : Below w2.heap.size w2 W8 := hS8
        go_wp2_with fail
        go_ret
        exact ⟨by rw [HCC.out]; rfl, hbb.trans (hS8.mono hbb.size)⟩
    · have ce := CE.out k (by omega)
      simp only [List.length_drop, List.length_map] at ce
      have hfin : Below w.heap.size w wr := hbb.trans (hb.mono hbb.size)
      clear HC
      by_cases hl : k < L.length
      · obtain rfl : k = M.length := by omega
        have HCC := Lib.hid (show Sp.compare s.data.toList t.data.toList = 1 by rw [hc, ce]; omega)
        clear hc ce hlt
        go_wp2_with fail
        go_ret
        exact ⟨by rw [HCC.out]; rfl, hfin⟩
      · obtain rfl : k = L.length := by omega
        by_cases hm : L.length < M.length
        · have HCC := Lib.hid (show Sp.compare s.data.toList t.data.toList = -1 by rw [hc, ce]; omega)
          clear hc ce hlt
          go_wp2_with fail
          go_ret
          exact ⟨by rw [HCC.out]; rfl, hfin⟩
        · have HCC := Lib.hid (show Sp.compare s.data.toList t.data.toList = 0 by rw [hc, ce]; omega)
          clear hc ce hlt
          go_wp2_with fail
          go_ret
          exact ⟨by rw [HCC.out]; rfl, hfin⟩
end Go.Proofs.YtmlfnidckfeebaaGreatDoor
