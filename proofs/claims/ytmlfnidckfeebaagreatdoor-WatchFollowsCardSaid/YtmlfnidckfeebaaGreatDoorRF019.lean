/- Walks: the names right below a directory, the document's. Walks: the document's tree with a leaf at a path. Walks: the document's tree of some entries. The tree of some entries and the document's: plain. A directory below a directory, in the document's words: plain. Walks: a tree tells all paths, with their leaves. -/
import Derived.Sort.CutIn
import Derived.Test.YtmlfnidckfeebaaGreatDoorRF018
namespace Go.Proofs.YtmlfnidckfeebaaGreatDoor
open Go.RowKit Go.Shelf
attribute [local go_sem] yUpon strOf_toList
namespace Sp
def nxt (out : List Bs) (s : Bs) : List Bs := if out.getLast? = some s then out else out ++ [s]
theorem under_lt {p d : Bs} (h : under p d = true) : (parts d).length < (parts p).length := by
  unfold under at h
  simp only [Bool.and_eq_true, decide_eq_true_eq] at h
  exact h.1.2
end Sp
set_option maxRecDepth 100000 in
set_option maxHeartbeats 4000000 in
theorem rnames_own (l : List Sp.DE) (A : Option Addr) (cap : Nat) (d : Sp.Bs) (w : World) (h : EntsAt w A l) (hl : l.length ≤ 1000000) (hpl : ∀ e ∈ l, e.1.length ≤ 1000000) (hdl : d.length ≤ 1000000) :
    Calls Tryz.prog 150 #[.slice A l.length cap, .string (strOf d)] w fun e w' => ∃ v, e = .returned v ∧ w'.ownsRow w.heap.size 9 1 v (Sp.rnames d [] l).length (strsC (Sp.rnames d [] l)) ∧ Ext w w' := by
  have HH := Lib.hid h
  have HPL := Lib.hid hpl
  clear h hpl
  go_enter Tryz.func150, Tryz.ntmps150
  go_wp2
  go_loopw [5, 6] (fun v5 v6 wr => ∃ (k : Nat) (out : List Sp.Bs) (v : Value), k ≤ l.length ∧ v = v5 ∧ v6 = .int .i64 k ∧ out.length ≤ k ∧ wr.ownsRow w.heap.size 9 1 v out.length (strsC out) ∧ Sp.rnames d out (l.drop k) = Sp.rnames d [] l ∧ Ext w wr) (fun _ v6 _ => l.length - (intOf v6).toNat)
  case atStart => exact ⟨0, [], _, Nat.zero_le _, rfl, rfl, Nat.le_refl _, World.ownsRow_nil _ _ _ _, rfl, Ext.refl _⟩
  case round =>
    obtain ⟨k, out, v, hk2, rfl, rfl, hol, ho, hr, hb⟩ := hrel
    have HO := Lib.hid ho
    have HB := Lib.hid hb
    clear ho hb
    by_cases hlt : k < l.length
    · obtain ⟨eb, eo, rfl, he⟩ := HH.out.at (by omega)
      obtain ⟨Av, cv, c0, _, _⟩ := he k hlt
      obtain ⟨x, hx⟩ : ∃ x, x = l[k] := ⟨_, rfl⟩
      have RS := Lib.hid (show (if Sp.under x.1 d = true then Sp.rnames d (Sp.nxt out ((Sp.parts x.1).getD (Sp.parts d).length [])) (l.drop (k + 1)) else Sp.rnames d out (l.drop (k + 1))) = Sp.rnames d [] l by
        rw [← hr, List.drop_eq_getElem_cons hlt, hx]; rfl)
      have XL := Lib.hid (show x.1.length ≤ 1000000 by rw [hx]; exact HPL.out _ (List.getElem_mem hlt))
      rw [← hx] at c0
      have C0 := Lib.hid c0
      have x0 := HB.out.cell c0
      have b1 : (k : Int) < (l.length : Int) := by omega
      clear hr he hx c0
      go_wp2_with fail
      refine (under_calls x.1 d wr XL.out hdl).mono ?_
      rintro e w1 ⟨rfl, hb1⟩
      have B1 := Lib.hid (show Ext wr w1 from hb1)
      clear hb1 x0
      by_cases hu : Sp.under x.1 d = true
      · have RS2 := Lib.hid (show Sp.rnames d (Sp.nxt out ((Sp.parts x.1).getD (Sp.parts d).length [])) (l.drop (k + 1)) = Sp.rnames d [] l by rw [← RS.out, if_pos hu])
        have LT := Lib.hid (Sp.under_lt hu)
        have x1 := (HB.out.trans B1.out).cell C0.out
        rw [hu]
        clear hu
        go_wp2_with fail
        refine (rparts_calls (strOf x.1) w1 (by rw [strOf_size]; have := XL.out; omega)).mono ?_
        intro e w2 ht
        obtain ⟨A2, c2, rfl, _, hN2, hb2⟩ := ht.nams
        rw [strOf_data] at hN2 ⊢
        have N2 := Lib.hid hN2
        have B2 := Lib.hid (show Ext wr w2 from B1.out.trans hb2)
        clear ht hN2 hb2 x1
        go_wp2_with fail
        refine (rparts_calls (strOf d) w2 (by rw [strOf_size]; omega)).mono ?_
        intro e w3 ht
        obtain ⟨A3, c3, rfl, _, _, hb3⟩ := ht.nams
        rw [strOf_data] at ⊢
        have B3 := Lib.hid (show Ext wr w3 from B2.out.trans hb3)
        have N3 := Lib.hid (N2.out.ext hb3)
        have HO3 := Lib.hid (own_ext HO.out B3.out)
        clear ht hb3
        obtain ⟨j, hj⟩ : ∃ j, j = (Sp.parts d).length := ⟨_, rfl⟩
        obtain ⟨P, hP⟩ : ∃ P, P = Sp.parts x.1 := ⟨_, rfl⟩
        rw [← hj, ← hP] at LT RS2
        rw [← hP] at N3
        rw [← hj, ← hP]
        have hjP := LT.out
        obtain ⟨a2, o2, rfl, hn2⟩ := N3.out.at (by omega)
        obtain ⟨s, hs⟩ : ∃ s, s = P[j] := ⟨_, rfl⟩
        have s1 := hn2 j hjP
        rw [← hs] at s1
        have RS3 := Lib.hid (show Sp.rnames d (Sp.nxt out s) (l.drop (k + 1)) = Sp.rnames d [] l by
          rw [← RS2.out, List.getD_eq_getElem?_getD, List.getElem?_eq_getElem hjP, ← hs]; rfl)
        have d1 : (j : Int) < (P.length : Int) := by omega
        have E3 := Lib.hid (HB.out.trans B3.out)
        clear hj hP hn2 hs
        by_cases h0 : out = []
        · subst h0
          have NX := Lib.hid (show Sp.nxt [] s = [s] from rfl)
          rcases own_form HO3.out with ⟨rfl, _, _⟩ | ⟨go, co, rfl, _, _⟩
          · go_wp2_with (at_builtin; refine app_new appStr rfl _ _ rfl w.heap.size _ 0 _ rfl HO3.out #[.string (strOf s)] 9 1 rfl rfl (by intro u hu; simp at hu; subst hu; rfl) (by decide) (by omega) E3.out.size ?_; intro g4 cap4 w4 hown4 hgr4 hb4 hbg4; have O4 := Lib.hid hown4; have B4 := Lib.hid (Below.trans E3.out hb4); clear hown4 hgr4 hb4 hbg4)
            refine ⟨⟨k + 1, [s], _, by omega, rfl, by go_num, by simp, O4.out, by rw [← RS3.out, NX.out], B4.out⟩, by simp [intOf]; omega⟩
          · go_wp2_with (at_builtin; refine app_new appStr rfl _ _ rfl w.heap.size _ 0 _ rfl HO3.out #[.string (strOf s)] 9 1 rfl rfl (by intro u hu; simp at hu; subst hu; rfl) (by decide) (by omega) E3.out.size ?_; intro g4 cap4 w4 hown4 hgr4 hb4 hbg4; have O4 := Lib.hid hown4; have B4 := Lib.hid (Below.trans E3.out hb4); clear hown4 hgr4 hb4 hbg4)
            refine ⟨⟨k + 1, [s], _, by omega, rfl, by go_num, by simp, O4.out, by rw [← RS3.out, NX.out], B4.out⟩, by simp [intOf]; omega⟩
        · have hn0 : out.length ≠ 0 := fun h => h0 (List.eq_nil_of_length_eq_zero h)
          obtain ⟨m, hm⟩ : ∃ m, m = out.length - 1 := ⟨_, rfl⟩
          have hml : m < out.length := by omega
          have w1 : IntKind.i64.wrap ((out.length : Int) - 1) = (m : Int) := by rw [IntKind.wrap_i64]; omega
          have e0 : ((out.length : Int) == 0) = false := by rw [beq_eq_false_iff_ne]; omega
          have d2 : (m : Int) < (out.length : Int) := by omega
          obtain ⟨y, hy⟩ : ∃ y, y = out[m] := ⟨_, rfl⟩
          have GL := Lib.hid (show out.getLast? = some y by rw [List.getLast?_eq_getElem?, ← hm, List.getElem?_eq_getElem hml, hy])
          rcases own_form HO3.out with ⟨_, h1, _⟩ | ⟨go, co, rfl, _, _⟩
          · exact absurd h1 hn0
          have y1 := (own_isBlk HO3.out m (.string (strOf y)) (by rw [strsC, List.getElem?_map, List.getElem?_eq_getElem hml, ← hy]; rfl)).1
          have HN0 := Lib.hid hn0
          clear h0 hy hm hn0
          by_cases hys : y = s
          · have e1 : (y == s) = true := by rw [hys]; exact beq_self_eq_true _
            have NX := Lib.hid (show Sp.nxt out s = out by rw [Sp.nxt, if_pos (by rw [GL.out, hys])])
            clear hys
            go_wp2
            refine ⟨⟨k + 1, out, _, by omega, rfl, by go_num, by omega, HO3.out, by rw [← RS3.out, NX.out], E3.out⟩, by simp [intOf]; omega⟩
          · have e1 : (y == s) = false := by rw [beq_eq_false_iff_ne]; exact hys
            have NX := Lib.hid (show Sp.nxt out s = out ++ [s] by rw [Sp.nxt, if_neg (by rw [GL.out]; intro h; exact hys (Option.some.inj h))])
            clear hys
            go_wp2_with (at_builtin; refine app_new appStr rfl _ _ rfl w.heap.size _ out.length _ rfl HO3.out #[.string (strOf s)] 9 1 rfl rfl (by intro u hu; simp at hu; subst hu; rfl) (by decide) (by omega) E3.out.size ?_; intro g4 cap4 w4 hown4 hgr4 hb4 hbg4; have O4 := Lib.hid hown4; have B4 := Lib.hid (Below.trans E3.out hb4); clear hown4 hgr4 hb4 hbg4)
            refine ⟨⟨k + 1, out ++ [s], _, by omega, rfl, by go_num, by simp; omega, ?_, by rw [← RS3.out, NX.out], B4.out⟩, by simp [intOf]; omega⟩
            have := O4.out
            rw [List.length_append, strsC, List.map_append]
            exact this
      · have hu2 : Sp.under x.1 d = false := by simpa using hu
        have RS2 := Lib.hid (show Sp.rnames d out (l.drop (k + 1)) = Sp.rnames d [] l by rw [← RS.out, if_neg hu])
        rw [hu2]
        clear hu hu2
        go_wp2
        refine ⟨⟨k + 1, out, _, by omega, rfl, by go_num, by omega, own_ext HO.out B1.out, RS2.out, HB.out.trans B1.out⟩, by simp [intOf]; omega⟩
    · obtain rfl : k = l.length := by omega
      rw [List.drop_length] at hr
      have RG := Lib.hid (show out = Sp.rnames d [] l from hr)
      clear hr
      go_wp2
      go_ret
      rw [← RG.out]
      exact ⟨_, rfl, HO.out, HB.out⟩
theorem rnames_calls (l : List Sp.DE) (A : Option Addr) (cap : Nat) (d : Sp.Bs) (w : World) (h : EntsAt w A l) (hl : l.length ≤ 1000000) (hpl : ∀ e ∈ l, e.1.length ≤ 1000000) (hdl : d.length ≤ 1000000) :
    Calls Tryz.prog 150 #[.slice A l.length cap, .string (strOf d)] w fun e w' => ∃ B c, e = .returned (.slice B (Sp.rnames d [] l).length c) ∧ Nams w' B (Sp.rnames d [] l) ∧ Ext w w' :=
  (rnames_own l A cap d w h hl hpl hdl).mono (by
    rintro e w' ⟨v, rfl, hO, hb⟩
    obtain ⟨B, c, rfl, hc⟩ := own_read hO
    exact ⟨B, c, rfl, hc, hb⟩)
theorem appEnt : AppStat Tryz.prog 22 43 2 40 := by
  refine ⟨Tryz.underlying22, by decide, by decide, ?_⟩
  obtain ⟨i0, hi, hz0, hz1, hz2⟩ := info_parts (show (Tryz.prog.info? 43).map (fun i => (i.zero, i.size, i.bytes)) = some (some (.agg #[.string ⟨#[]⟩, .slice none 0 0]), 2, 40) by kernel_rfl)
  exact ⟨i0, _, hi, hz0, hz1, hz2, rfl⟩
theorem entsC_snoc (m : List (Option Addr × Nat × Sp.DE)) (x : Option Addr × Nat × Sp.DE) : entsC (m ++ [x]) = entsC m ++ entC x := by
  induction m with
  | nil => simp [entsC]
  | cons y r ih => rw [List.cons_append, entsC, ih, entsC, List.append_assoc]
namespace Sp
def rsetS (l : List DE) (p : Bs) (vs : List Ver) : List DE × Int := if check p ≠ 0 then ([], check p) else if leaf vs ≠ 0 then ([], leaf vs) else if 128 < (rset l p vs).length then ([], 4) else (rset l p vs, 0)
def rof : List DE → List DE → List DE × Int
  | m, [] => (m, 0)
  | m, e :: r => if (rsetS m e.1 e.2).2 ≠ 0 then ([], (rsetS m e.1 e.2).2) else rof (rsetS m e.1 e.2).1 r
theorem rgo_mem (p : Bs) (vs : List Ver) : ∀ (l : List DE) (b : Bool), ∀ e ∈ rgo p vs b l, e = (p, vs) ∨ e ∈ l
  | [], b, e, h => by
    rw [rgo] at h
    split at h
    · cases h
    · exact .inl (List.mem_singleton.1 h)
  | x :: r, b, e, h => by
    rw [rgo] at h
    rcases List.mem_append.1 h with h | h
    · split at h
      · exact .inl (List.mem_singleton.1 h)
      · cases h
    · rcases List.mem_append.1 h with h | h
      · split at h
        · cases h
        · rw [List.mem_singleton.1 h]; exact .inr (List.mem_cons_self ..)
      · rcases rgo_mem p vs r _ e h with h | h
        · exact .inl h
        · exact .inr (List.mem_cons_of_mem _ h)
def GoodM (m : List DE) : Prop := Paths m ∧ m.length ≤ 128
theorem rsetS_ok {m : List DE} {p : Bs} {vs : List Ver} (h : (rsetS m p vs).2 = 0) : check p = 0 ∧ leaf vs = 0 ∧ (rsetS m p vs).1 = rset m p vs ∧ (rset m p vs).length ≤ 128 := by
  unfold rsetS at h ⊢
  by_cases h1 : check p = 0
  · rw [if_neg (by simpa using h1)] at h ⊢
    by_cases h2 : leaf vs = 0
    · rw [if_neg (by simpa using h2)] at h ⊢
      by_cases h3 : 128 < (rset m p vs).length
      · rw [if_pos h3] at h; exact absurd h (by decide)
      · rw [if_neg h3]; exact ⟨h1, h2, rfl, by omega⟩
    · rw [if_pos h2] at h; exact absurd h h2
  · rw [if_pos h1] at h; exact absurd h h1
theorem rsetS_good {m : List DE} {p : Bs} {vs : List Ver} (hm : GoodM m) (h : (rsetS m p vs).2 = 0) : GoodM (rsetS m p vs).1 := by
  obtain ⟨h1, _, h3, h4⟩ := rsetS_ok h
  rw [h3]
  refine ⟨fun e he => ?_, h4⟩
  rcases rgo_mem p vs m _ e he with rfl | he
  · exact h1
  · exact hm.1 e he
theorem goodM_nil : GoodM [] := ⟨(fun e h => by cases h), Nat.zero_le _⟩
theorem rof_good : ∀ (l m : List DE), GoodM m → GoodM (rof m l).1
  | [], m, h => h
  | e :: r, m, h => by
    rw [rof]
    by_cases hc : (rsetS m e.1 e.2).2 = 0
    · rw [if_neg (by simpa using hc)]; exact rof_good r _ (rsetS_good h hc)
    · rw [if_pos hc]; exact goodM_nil
theorem good_len {m : List DE} (h : GoodM m) : ∀ e ∈ m, e.1.length ≤ 1000000 := fun e he => Nat.le_trans (check_parts (h.1 e he)).2.1 (by decide)
end Sp
end Go.Proofs.YtmlfnidckfeebaaGreatDoor
namespace Go.Proofs.YtmlfnidckfeebaaGreatDoor
open Go.RowKit
namespace Sp
theorem toP_len (m : List DE) : (toP m).length = m.length := List.length_map ..
theorem riseO {o : Option T} (h : ∀ t, o = some t → Ok t) : RiseE (entriesO o) := by
  cases o with
  | none => exact List.Pairwise.nil
  | some t => exact entries_rise t (h t rfl)
theorem set_both {o : Option T} {m : List DE} (he : toP m = entriesO o) (ho : GoodO o) (p : Bs) (l : List Ver) :
    (rsetS m p l).2 = setCode o p l ∧ (setCode o p l = 0 → toP (rsetS m p l).1 = entriesO (withO o (split p) l)) := by
  have e1 : toP (rset m p l) = entriesO (withO o (split p) l) := by
    rw [rgo_setE p l m (by rw [he]; exact riseO ho.1), he, with_entries _ _ _ ho.1]
  have e2 : (rset m p l).length = (entriesO (withO o (split p) l)).length := by rw [← e1, toP_len]
  by_cases h1 : check p = 0
  · by_cases h2 : leaf l = 0
    · by_cases h3 : 128 < (entriesO (withO o (split p) l)).length
      · have a1 : rsetS m p l = ([], 4) := by unfold rsetS; rw [if_neg (by simpa using h1), if_neg (by simpa using h2), if_pos (by rw [e2]; exact h3)]
        have a2 : setCode o p l = 4 := by unfold setCode; rw [if_neg (by simpa using h1), if_neg (by simpa using h2), if_pos h3]
        rw [a1, a2]; exact ⟨rfl, fun h => absurd h (by decide)⟩
      · have a1 : rsetS m p l = (rset m p l, 0) := by unfold rsetS; rw [if_neg (by simpa using h1), if_neg (by simpa using h2), if_neg (by rw [e2]; exact h3)]
        have a2 : setCode o p l = 0 := by unfold setCode; rw [if_neg (by simpa using h1), if_neg (by simpa using h2), if_neg h3]
        rw [a1, a2]; exact ⟨rfl, fun _ => e1⟩
    · have a1 : rsetS m p l = ([], leaf l) := by unfold rsetS; rw [if_neg (by simpa using h1), if_pos h2]
      have a2 : setCode o p l = leaf l := by unfold setCode; rw [if_neg (by simpa using h1), if_pos h2]
      rw [a1, a2]; exact ⟨rfl, fun h => absurd h h2⟩
  · have a1 : rsetS m p l = ([], check p) := by unfold rsetS; rw [if_pos h1]
    have a2 : setCode o p l = check p := by unfold setCode; rw [if_pos h1]
    rw [a1, a2]; exact ⟨rfl, fun h => absurd h h1⟩
theorem of_both : ∀ (l : List DE) (o : Option T) (m : List DE), toP m = entriesO o → GoodO o → (rof m l).2 = (ofT o l).2 ∧ toP (rof m l).1 = entriesO (ofT o l).1
  | [], o, m, he, _ => ⟨rfl, he⟩
  | e :: r, o, m, he, ho => by
    obtain ⟨s1, s2⟩ := set_both he ho e.1 e.2
    rw [rof, ofT, s1]
    by_cases hc : setCode o e.1 e.2 = 0
    · rw [if_neg (by simpa using hc), if_neg (by simpa using hc)]
      exact of_both r _ _ (s2 hc) (setCode_good hc ho)
    · rw [if_pos hc, if_pos hc]; exact ⟨rfl, rfl⟩
theorem entries_getD (o : Option T) : entries (o.getD .nil) = entriesO o := by
  cases o with
  | none => rfl
  | some t => rfl
theorem check_of_parts {d : Bs} (h : parts d ≠ []) : check d = 0 := by
  have h51 : ¬ 51 < d.length := fun hh => h (by unfold parts; rw [if_pos hh])
  unfold check
  rw [if_neg h51, if_neg (fun hh => h (List.eq_nil_of_length_eq_zero hh))]
theorem rget_bad {m : List DE} (hm : Paths m) {d : Bs} (h : check d ≠ 0) : rget m d = [] := by
  induction m with
  | nil => rfl
  | cons e r ih =>
    rw [rget, if_neg (fun hh => h (by rw [← hh]; exact hm e (List.mem_cons_self ..)))]
    exact ih fun x hx => hm x (List.mem_cons_of_mem _ hx)
theorem at_both {o : Option T} {m : List DE} (he : toP m = entriesO o) (ho : GoodO o) (hm : GoodM m) (d : Bs) (hd : Dir d) :
    subs (toP m) (parts d) = entriesO (findT (o.getD .nil) (parts d)) ∧ ∀ s, findT (o.getD .nil) (parts d) = some s → Ok s ∧ rget m d = s.leaf ∧ rnames d [] m = s.kids.map (·.1) := by
  have hk : Ok (o.getD .nil) := by
    cases o with
    | none => exact ⟨fun h => absurd rfl h, List.Pairwise.nil, trivial⟩
    | some t => exact ho.1 t rfl
  obtain ⟨f1, f2⟩ := findT_subs (parts d) (o.getD .nil) hk
  rw [entries_getD, ← he] at f1
  refine ⟨f1, fun s hs => ?_⟩
  rw [hs] at f1
  have hok := f2 s hs
  refine ⟨hok, ?_, ?_⟩
  · rw [get_subs m hm.1 d hd, f1]
    cases s with
    | mk leaf k => exact get0_entries leaf k
  · rw [names_subs d hd m hm.1 [], f1]
    cases s with
    | mk leaf k => exact namesE_entries leaf k hok.2.1 hok.2.2
theorem subs_snoc : ∀ (d : List Bs) (E : List PE) (n : Bs), subs E (d ++ [n]) = sub1 (subs E d) n
  | [], _, _ => rfl
  | _ :: d, E, n => subs_snoc d (sub1 E _) n
theorem kid_at : ∀ (k : List (Bs × T)) (i : Nat) (h : i < k.length), Rise k → kid k (k[i]).1 = some (k[i]).2
  | (m, s) :: r, 0, _, _ => by rw [kid, List.getElem_cons_zero, if_pos rfl]
  | (m, s) :: r, i + 1, h, hr => by
    obtain ⟨h1, h2⟩ := List.pairwise_cons.1 hr
    have hi : i < r.length := by simpa using h
    have hne : ¬ m = (r[i]).1 := by
      intro e
      have := h1 (r[i]).1 (List.mem_map_of_mem (List.getElem_mem hi))
      rw [← e, less_irr] at this
      cases this
    rw [List.getElem_cons_succ, kid, if_neg hne]
    exact kid_at r i hi h2
theorem name_slash {n : Bs} (h : name n = true) : ∀ c ∈ n, c ≠ 47 := by
  intro c hc e
  subst e
  unfold name at h
  simp only [Bool.and_eq_true] at h
  have := List.all_eq_true.1 h.2 _ hc
  exact absurd this (by decide)
theorem split_plain : ∀ (s : Bs), (∀ c ∈ s, c ≠ 47) → split s = [s]
  | [], _ => rfl
  | c :: r, h => by
    have ih := split_plain r fun x hx => h x (List.mem_cons_of_mem _ hx)
    rw [split, if_neg (h c (List.mem_cons_self ..)), ih]
theorem split_cat : ∀ (s : Bs) (r : Bs), (∀ c ∈ s, c ≠ 47) → split (s ++ 47 :: r) = s :: split r
  | [], r, _ => by rw [List.nil_append, split, if_pos rfl]
  | c :: s, r, h => by
    have ih := split_cat s r fun x hx => h x (List.mem_cons_of_mem _ hx)
    rw [List.cons_append, split, if_neg (h c (List.mem_cons_self ..)), ih]
theorem split_join : ∀ (a : List Bs), a ≠ [] → (∀ n ∈ a, ∀ c ∈ n, c ≠ 47) → split (joinP a) = a
  | [], h, _ => absurd rfl h
  | [s], _, hn => by rw [joinP]; exact split_plain s (hn s (List.mem_cons_self ..))
  | s :: b :: r, _, hn => by
    rw [joinP, split_cat s _ (hn s (List.mem_cons_self ..)), split_join (b :: r) (by simp) fun n h => hn n (List.mem_cons_of_mem _ h)]
theorem join_len : ∀ (a q : List Bs), a ≠ [] → (joinP a).length ≤ (joinP (a ++ q)).length
  | [], _, h => absurd rfl h
  | [s], [], _ => Nat.le_refl _
  | [s], b :: q, _ => by
    show s.length ≤ (joinP (s :: b :: q)).length
    rw [joinP]; simp
  | s :: b :: r, q, _ => by
    have := join_len (b :: r) q (by simp)
    rw [List.cons_append, List.cons_append, joinP, joinP]
    rw [List.cons_append] at this
    simp; omega
theorem check_prefix {p : Bs} {a q : List Bs} (hp : check p = 0) (h : split p = a ++ q) (ha : a ≠ []) : check (joinP a) = 0 ∧ parts (joinP a) = a := by
  obtain ⟨_, h51, h4, hall⟩ := check_parts hp
  have hn : ∀ n ∈ a, name n = true := fun n hn => List.all_eq_true.1 hall n (by rw [h]; exact List.mem_append_left _ hn)
  have hs := split_join a ha fun n hnn => name_slash (hn n hnn)
  have hl : (joinP a).length ≤ 51 := by
    have h1 := join_len a q ha
    rw [← h, join_split] at h1
    omega
  have hpa : parts (joinP a) = a := by
    unfold parts
    rw [if_neg (by omega), hs, if_neg (by rw [h, List.length_append] at h4; omega), if_pos (List.all_eq_true.2 hn)]
  refine ⟨?_, hpa⟩
  exact check_of_parts (by rw [hpa]; exact ha)
theorem down_join : ∀ (a : List Bs) (n : Bs), joinP (a ++ [n]) = if a = [] then n else joinP a ++ 47 :: n
  | [], n => rfl
  | [s], n => rfl
  | s :: b :: r, n => by
    have ih := down_join (b :: r) n
    rw [if_neg (by simp)] at ih ⊢
    rw [List.cons_append, List.cons_append, joinP, ← List.cons_append, ih, joinP]
    simp
theorem dir_join {d : Bs} (h : Dir d) : d = joinP (parts d) := by
  rcases h with rfl | h
  · rw [parts_empty]; rfl
  · rw [(check_parts h).1, join_split]
theorem down_is {d : Bs} (h : Dir d) (n : Bs) : down d n = joinP (parts d ++ [n]) := by
  rw [down_join, ← dir_join h]
  unfold down
  rcases h with rfl | h
  · rw [if_pos rfl, if_pos parts_empty]
  · have h1 : d ≠ [] := by rintro rfl; exact check_nil h
    have h2 : parts d ≠ [] := by rw [(check_parts h).1]; exact split_ne d
    rw [if_neg h1, if_neg h2]
theorem kid_dir {m : List DE} (hm : GoodM m) {d : Bs} (hd : Dir d) {s : T} (hs : Ok s) (he : subs (toP m) (parts d) = entries s) (i : Nat) (h : i < s.kids.length) :
    Dir (down d (s.kids[i]).1) ∧ parts (down d (s.kids[i]).1) = parts d ++ [(s.kids[i]).1] ∧ subs (toP m) (parts (down d (s.kids[i]).1)) = entries (s.kids[i]).2 ∧ Ok (s.kids[i]).2 := by
  cases s with
  | mk leaf k =>
    obtain ⟨_, hr, hk⟩ := hs
    change i < k.length at h
    show Dir (down d (k[i]).1) ∧ parts (down d (k[i]).1) = parts d ++ [(k[i]).1] ∧ subs (toP m) (parts (down d (k[i]).1)) = entries (k[i]).2 ∧ Ok (k[i]).2
    have hka := kid_at k i h hr
    have e1 : subs (toP m) (parts d ++ [(k[i]).1]) = entries (k[i]).2 := by
      rw [subs_snoc, he, sub1_entries _ leaf k hr, hka]; rfl
    have hne := kid_ne k _ _ hk hka
    have hok := kid_ok k _ _ hk hka
    rw [← e1] at hne
    obtain ⟨e, hmem⟩ := List.exists_mem_of_ne_nil _ hne
    rw [subs_strip] at hmem
    obtain ⟨e0, h0, h1⟩ := List.mem_filterMap.1 hmem
    obtain ⟨e00, h00, rfl⟩ := List.mem_map.1 h0
    cases hst : stripP (parts d ++ [(k[i]).1]) (split e00.1) with
    | none => rw [hst] at h1; cases h1
    | some q =>
      have hsp := (stripP_some _ _ _).1 hst
      obtain ⟨c1, c2⟩ := check_prefix (hm.1 e00 h00) hsp (by simp)
      rw [← down_is hd] at c1 c2
      exact ⟨.inr c1, c2, by rw [c2]; exact e1, hok⟩
end Sp
end Go.Proofs.YtmlfnidckfeebaaGreatDoor
namespace Go.Proofs.YtmlfnidckfeebaaGreatDoor
open Go.RowKit Go.Shelf
attribute [local go_sem] yUpon strOf_toList Oper.semAt_some
def Tells (T : TypeId → Prop) (B l : Nat) (xs : List LE) (J : Nat → World → Prop) : Prop :=
  ∀ i (hi : i < xs.length) (W1 : World) (m : Nat), J i W1 → YieldAt Fence.wide m Tryz.prog l (encL xs[i]) W1 fun e W' => e = .returned (.bool true) ∧ J (i + 1) W' ∧ KB T B W1 W'
namespace Sp
theorem kids_some : ∀ (k : List (Bs × T)), OkL k → ∀ x ∈ k, entries x.2 ≠ []
  | [], _, x, h => by cases h
  | (n, t) :: r, hk, x, h => by
    rcases List.mem_cons.1 h with rfl | h
    · exact hk.2.1
    · exact kids_some r hk.2.2.2 x h
end Sp
theorem own_low {w : World} {b b' n : Nat} {e : TypeId} {size : Nat} {v : Value} {xs : List Value} (h : w.ownsRow b e size v n xs) (hb : b' ≤ b) : w.ownsRow b' e size v n xs := by
  refine ⟨h.1, ?_⟩
  rcases h.2 with h2 | ⟨g, cap, cur, hv, hg, rest⟩
  · exact .inl h2
  · exact .inr ⟨g, cap, cur, hv, Nat.le_trans hb hg, rest⟩
theorem cell_new (w : World) (u : Value) (t : TypeId) : (w.alloc (.cells #[u] t)).cell? ⟨w.heap.size, 0, none⟩ = some u := (box_at w #[u] t).cell 0
theorem if_then {c : Prop} [Decidable c] {A B : Prop} (h : c) (a : A) : (if c then A else B) := by rw [if_pos h]; exact a
theorem step_of_list {F : Fence} {n : Nat} {P : Program} {ops : Array Oper} {o : Oper} {a : Act} {w : World} {K : Act → World → Prop} {Q : Exit → Act → World → Prop} (hw : Region.wanted o (yielded ops a.tmps) = true) (h : wpListIn F n P ops (Exit.then K Q) [o] a w) : Oper.wpIn F n P o a w K Q := by
  unfold wpListIn at h
  rw [if_pos hw] at h
  refine ⟨h.1, ?_⟩
  have h2 := h.2
  generalize (o.semAt F.round a.eval).run P w = q at h2 ⊢
  cases q with
  | ok x w2 => cases x <;> exact h2
  | halt x w2 => cases x <;> exact h2
theorem appIn_one {F : Fence} {n : Nat} {P : Program} {ops : Array Oper} {rest : List Oper} {o : Oper} {a : Act} {Q : Exit → Act → World → Prop} {w : World} {t e : TypeId} {bytes : Nat} (hst : AppStat P t e 1 bytes) (hgd : o.guard = none) (s x : Operand) (ho : o.op = .call { callee := .builtin .append, args := #[s, x], argTypes := #[t, t] })
    (base : Nat) (v : Value) (k : Nat) (xs : List Value) (hs : a.eval s = v) (hown : w.ownsRow base e 1 v k xs) (gx : Nat) (u : Value) (hx : a.eval x = .slice (some ⟨gx, 0, none⟩) 1 1) (hc : w.cell? ⟨gx, 0, none⟩ = some u) (h1 : u.oneCell' = true) (hcap : (k + 1) * bytes ≤ 140737488355328) (hbase : base ≤ w.heap.size)
    (h : ∀ g cap w', w'.ownsRow base e 1 (.slice (some ⟨g, 0, none⟩) (k + 1) cap) (k + 1) (xs ++ [u]) → w.grownBy w' v.ownBlock → base ≤ g → wpListIn F n P ops Q rest (a.put o.dst (.slice (some ⟨g, 0, none⟩) (k + 1) cap)) w') :
    wpListIn F n P ops Q (o :: rest) a w := by
  obtain ⟨ht, hz0, hb0, i, z, hi, hz, hsz, hby, hzs⟩ := hst
  have hmax : k + 1 ≤ maxLen := by
    have : k + 1 ≤ (k + 1) * bytes := Nat.le_mul_of_pos_right _ hb0
    unfold maxLen; omega
  refine wpListIn_append_own _ hgd s x t ho base e i z 1 bytes ht hi hz hsz hby hzs hz0 v k xs hs hown ⟨gx, 0, none⟩ 1 1 [u] hx (by simp) ?_ (by intro y hy; simp at hy; rw [hy]; exact h1) hmax hcap hbase ?_
  · intro j y hj
    cases j with
    | zero => obtain rfl : u = y := by simpa using hj
              simpa [Addr.add] using hc
    | succ j => simp at hj
  · intro v' w' hown' hg _
    obtain ⟨g, cap, rfl, hgb⟩ := owned_form hown' (by omega)
    exact h g cap w' hown' hg hgb
theorem strs_one (l : List Sp.Bs) : ∀ u ∈ strsC l, u.oneCell' = true := by
  intro u hu
  obtain ⟨x, _, rfl⟩ := List.mem_map.1 hu
  rfl
set_option maxRecDepth 100000 in
set_option maxHeartbeats 4000000 in
theorem all_in {w0 : World} {T : TypeId → Prop} (hT : ¬ T 9) {g : Nat} {t : Sp.T} {m : List LE} (h : ListAt w0 g t m) :
    ∀ (n : Nat) (d : List Sp.Bs) (v : Value) (l : Nat) (xs : List LE) (J : Nat → World → Prop) (i0 : Nat) (wa : World), Sp.Ok t → Sp.sizeT t ≤ 1000000 → (∀ i W W', J i W → Ext W W' → J i W') → (∀ i W, J i W → Ext w0 W) → Tells T w0.heap.size l xs J →
      (∀ j (h : j < m.length), xs[i0 + j]? = some (catL d m[j])) → (∀ x ∈ m, d.length + x.2.2.1.length ≤ 60) → d.length ≤ 60 → (∀ s ∈ d, s.length ≤ 12) → DirAt wa v d → J i0 wa →
      CallsIn Fence.wide n Tryz.prog 152 #[.pointer (some ⟨g, 0, none⟩), v, .func (.yield l) #[] #[]] wa fun e W' => e = .returned (.bool true) ∧ J (i0 + m.length) W' ∧ KB T w0.heap.size wa W' := by
  induction h with
  | mk g t A B C c c' c'' gs ms hp hm hK ih =>
    intro n d v l xs J i0 wa hok hsz hJx hJ0 hY hx hd hd0 hdn hD hJ
    have OK := Lib.hid hok
    have SZ := Lib.hid hsz
    have kb : t.kids.length ≤ 1000000 := by
      have h1 := Sp.kids_size t.kids (ok_rise hok).2
      have h2 := Sp.sizeT_n0 t
      omega
    have JX := Lib.hid hJx
    have J0 := Lib.hid hJ0
    have YY := Lib.hid hY
    have XX := Lib.hid hx
    have HD := Lib.hid hd
    have DN := Lib.hid hdn
    have DA := Lib.hid hD
    have JJ := Lib.hid hJ
    have PP := Lib.hid hp
    have IH := Lib.hid ih
    have EW := Lib.hid (hJ0 _ _ hJ)
    have HK := Lib.hid hK
    clear hok hsz hJx hJ0 hY hx hd hdn hD hJ hp ih hK
    obtain ⟨Ad, cd, rfl, hN, hcd⟩ := DA.out.read
    have NN := Lib.hid hN
    have P1 := Lib.hid (PP.out.ext EW.out)
    have f0 := (P1.out.blk.cell 0).trans P1.out.c0
    clear hN
    refine callsIn_of_wp Tryz.func152 rfl trivial ?_ rfl
    simp only [Tryz.ntmps152, List.size_toArray, List.length_cons, List.length_nil, Nat.reduceAdd, Nat.reduceSub, Array.replicate_succ, Array.replicate_zero, List.push_toArray, List.append_toArray, List.nil_append, List.cons_append]
    gi_wp2_with fail
    have JN := Lib.hid fun W' (e : Ext wa W') => join_calls d Ad cd W' (NN.out.ext e) hcd (by omega) (fun s hs => Nat.le_trans (DN.out s hs) (by decide))
    obtain ⟨here, hh⟩ : ∃ here, here = hereL A c t := ⟨_, rfl⟩
    have XH := Lib.hid (show ∀ j (h : j < here.length), xs[i0 + j]? = some (catL d here[j]) from fun j h => by
      subst hh
      have := XX.out j (by rw [List.length_append]; omega)
      rwa [List.getElem_append_left h] at this)
    gi_cut [25] from 26 (fun v25 wx => v25 = .bool false ∧ J (i0 + here.length) wx ∧ KB T w0.heap.size wa wx)
    case first =>
      by_cases hl : t.leaf = []
      · have e1 : decide (0 < t.leaf.length) = false := by rw [hl]; rfl
        have H0 := Lib.hid (show here = [] by rw [hh]; unfold hereL; rw [if_pos hl])
        clear hl f0
        refine wpIn_region_det_tail (r := none) (fun W' => Ext wa W') 14 (by kernel_rfl) (by kernel_rfl) (by kernel_rfl) (Ext.refl wa).drew ?_
        repeat (first
          | (refine det_step (fun K hK => ?_)
             apply Exists.intro
             refine ⟨Or.inl ⟨rfl, fun W hS => ?_⟩, ?_⟩
             · replace hS : Ext wa W := hS; have f0 := ((P1.out.ext hS).blk.cell 0).trans P1.out.c0
               go_simp
               first
               | exact rfl
               | exact ⟨rfl, hS⟩
               | (fail)
             go_simp
             refine hK _ ?_
             clear hK K)
          | (refine det_step (fun K hK => ?_); refine det_no' rfl ?_; go_simp; refine hK _ ?_; clear hK K))
        refine det_nil ?_
        intro W2 hW2
        have E2 := Lib.hid (show Ext wa W2 from hW2)
        clear hW2
        gi_wp2_with (refine ⟨fun _ _ => trivial, ?_⟩)
        gi_meet
        case rel =>
          rw [H0.out]
          exact ⟨rfl, JX.out _ _ _ JJ.out E2.out, KB.ext EW.out.size E2.out⟩
      · have e1 : decide (0 < t.leaf.length) = true := decide_eq_true (List.length_pos_iff.2 hl)
        have H1 := Lib.hid (show here = [(A, c, ([], t.leaf))] by rw [hh]; unfold hereL; rw [if_neg hl])
        clear hl f0
        refine wpIn_region_det_tail (r := none) (fun W' => Ext wa W') 14 (by kernel_rfl) (by kernel_rfl) (by kernel_rfl) (Ext.refl wa).drew ?_
        repeat (first
          | (refine det_step (fun K hK => ?_)
             apply Exists.intro
             refine ⟨Or.inl ⟨rfl, fun W hS => ?_⟩, ?_⟩
             · replace hS : Ext wa W := hS; have f0 := ((P1.out.ext hS).blk.cell 0).trans P1.out.c0
               go_simp
               first
               | exact rfl
               | exact ⟨rfl, hS⟩
               | (refine (JN.out W hS).mono ?_; rintro e w2 ⟨rfl, hb2⟩; exact ⟨rfl, hS.trans hb2⟩)
             go_simp
             refine hK _ ?_
             clear hK K)
          | (refine det_step (fun K hK => ?_); refine det_no' rfl ?_; go_simp; refine hK _ ?_; clear hK K))
        refine det_nil ?_
        intro W2 hW2
        have E2 := Lib.hid (show Ext wa W2 from hW2)
        clear hW2
        have hx1 := XH.out 0 (by rw [H1.out]; simp)
        simp only [H1.out, List.getElem_cons_zero, Nat.add_zero] at hx1
        have hi0 : i0 < xs.length := (List.getElem?_eq_some_iff.1 hx1).1
        have hx2 : xs[i0] = catL d (A, c, ([], t.leaf)) := (List.getElem?_eq_some_iff.1 hx1).2
        obtain ⟨fn, tmps, assign, body, hy, hR⟩ := YY.out i0 hi0 W2 (n - 1) (JX.out _ _ _ JJ.out E2.out)
        rw [hx2, encL, catL, List.append_nil] at hy
        have HR := Lib.hid hR
        clear hx1 hx2 hR
        gi_wp2
        refine ⟨(fun h => by cases h), ?_⟩
        refine HR.out.mono ?_
        rintro e W3 ⟨rfl, hJ3, hk3⟩
        have J3 := Lib.hid hJ3
        have K3 := Lib.hid ((KB.ext EW.out.size E2.out).trans hk3)
        clear hJ3 hk3 hy
        gi_wp2_with fail
        gi_meet
        case rel =>
          rw [H1.out]
          exact ⟨rfl, J3.out, K3.out⟩
    case rest =>
      obtain ⟨rfl, hj, hk⟩ := hcut
      obtain ⟨wb, hwb⟩ : ∃ wb, wb = wc := ⟨_, rfl⟩
      rw [← hwb] at hj hk ⊢
      clear hwb wc f0 JN XH
      have JB := Lib.hid hj
      have KBb := Lib.hid hk
      have EB := Lib.hid (show Ext w0 wb from J0.out _ _ hj)
      have P2 := Lib.hid (PP.out.ext EB.out)
      have f2 := (P2.out.blk.cell 2).trans P2.out.c2
      clear hj hk
      gi_wp2_with fail
      gi_loopw [31] (fun v31 wr => ∃ k : Nat, k ≤ t.kids.length ∧ v31 = .int .i64 k ∧ J (i0 + here.length + offL ms k) wr ∧ KB T w0.heap.size wa wr) (fun v31 _ => t.kids.length - (intOf v31).toNat)
      case atStart => exact ⟨0, Nat.zero_le _, rfl, by rw [show offL ms 0 = 0 by cases ms <;> rfl]; exact JB.out, KBb.out⟩
      case round =>
        obtain ⟨k, hk, rfl, hj, hkb⟩ := hrel
        have JR := Lib.hid hj
        have KR := Lib.hid hkb
        have ER := Lib.hid (show Ext w0 wr from J0.out _ _ hj)
        have P3 := Lib.hid (PP.out.ext ER.out)
        have DB := Lib.hid (DA.out.keep hT hkb)
        have DR := Lib.hid (show Nams wr Ad d by obtain ⟨A2, c2, e2, h2, _⟩ := DB.out.read; cases e2; exact h2)
        clear hj hkb f2
        by_cases hlt : k < t.kids.length
        · obtain ⟨cb, co, nb, no, rfl, rfl, q1, q2⟩ := P3.out.at k hlt
          have f1 := (P3.out.blk.cell 1).trans P3.out.c1
          have b1 : (k : Int) < (t.kids.length : Int) := by omega
          gi_wp2_with fail
          have NK := Lib.hid (Sp.name_len (Sp.kids_names t.kids (ok_rise OK.out).2 _ (List.getElem_mem hlt)))
          have KL := Lib.hid (show k + 1 ≤ t.kids.length by omega)
          have KM := Lib.hid (show t.kids.length - ((k : Int) + 1).toNat < t.kids.length - ((k : Nat) : Int).toNat by omega)
          have OS := Lib.hid (off_succ ms k (by omega))
          have SUB := Lib.hid (show ∀ j (h : j < (ms.getD k []).length), (hereL A c t ++ belowL t.kids ms)[here.length + (offL ms k + j)]? = some (preL (t.kids[k]).1 (ms.getD k [])[j]) from fun j h => by
            rw [← hh, List.getElem?_append_right (by omega), show here.length + (offL ms k + j) - here.length = offL ms k + j by omega]
            exact below_at _ _ _ hlt hm j h)
          have D1 := Lib.hid (show ∀ x ∈ ms.getD k [], (d ++ [(t.kids[k]).1]).length + x.2.2.1.length ≤ 60 from fun x hx => by
            obtain ⟨j, hj, rfl⟩ := List.getElem_of_mem hx
            have := HD.out _ (List.mem_of_getElem? (SUB.out j hj))
            rw [List.length_append, List.length_singleton]
            simp only [preL, List.length_cons] at this
            omega)
          have D2 := Lib.hid (show (d ++ [(t.kids[k]).1]).length ≤ 60 by
            have hne : ms.getD k [] ≠ [] := fun e => by
              have := list_entries (HK.out k hlt)
              rw [e] at this
              exact Sp.kids_some t.kids (ok_rise OK.out).2 _ (List.getElem_mem hlt) this.symm
            obtain ⟨x, hx⟩ := List.exists_mem_of_ne_nil _ hne
            have := D1.out x hx
            omega)
          have KF := Lib.hid (show ∀ n v W, DirAt W v (d ++ [(t.kids[k]).1]) → Ext wr W → CallsIn Fence.wide n Tryz.prog 152 #[.pointer (some ⟨gs.getD k 0, 0, none⟩), v, .func (.yield l) #[] #[]] W fun e W' => e = .returned (.bool true) ∧ J (i0 + here.length + offL ms k + (ms.getD k []).length) W' ∧ KB T w0.heap.size W W' from fun n v W hdw e =>
            IH.out k hlt n (d ++ [(t.kids[k]).1]) v l xs J (i0 + here.length + offL ms k) W (Sp.kid_ok t.kids _ _ (ok_rise OK.out).2 (Sp.kid_at t.kids k hlt (ok_rise OK.out).1)) (by
                have h1 := Sp.kid_size t.kids _ _ (Sp.kid_at t.kids k hlt (ok_rise OK.out).1)
                have h2 := Sp.sizeT_n0 t
                have h3 := SZ.out
                omega) JX.out J0.out YY.out
              (fun j hj => by
                have h1 := SUB.out j hj
                have h2 := XX.out (here.length + (offL ms k + j)) (List.getElem?_eq_some_iff.1 h1).1
                rw [(List.getElem?_eq_some_iff.1 h1).2, cat_pre] at h2
                rw [show i0 + here.length + offL ms k + j = i0 + (here.length + (offL ms k + j)) by omega]
                exact h2)
              D1.out D2.out (fun s hs => by
                rcases List.mem_append.1 hs with h | h
                · exact DN.out s h
                · obtain rfl := List.mem_singleton.1 h
                  exact NK.out) hdw (JX.out _ _ _ JR.out e))
          have F1 := Lib.hid f1
          have Q2 := Lib.hid q2
          have EC := Lib.hid (show Ext wr wr.drew from (Ext.refl wr).drew)
          have CL := Lib.hid fun W (e : Ext wr W) => cloneStr (strsC d) d.length cd Ad W (DR.out.ext e) (by simp [strsC]) (strs_one d) (by omega)
          clear f1 q1 q2
          refine wpIn_region_any (by kernel_rfl) ?_
          change wpAnyIn _ _ _ _ _ _ _ _ _ (World.drew _)
          refine wpAnyIn_take (i := 0) (v := ?_) rfl rfl (by kernel_rfl) (by kernel_rfl) (by kernel_rfl) (fun _ _ _ h => h) ⟨Or.inl ⟨by rfl, ?_⟩, fun _ => rfl⟩ ?_
          rotate_left
          · (intro w; go_simp; first | done | with_reducible rfl)
          refine wpAnyIn_take (i := 1) (v := ?_) rfl rfl (by kernel_rfl) (by kernel_rfl) (by kernel_rfl) (fun _ _ _ h => h) ⟨Or.inl ⟨by rfl, ?_⟩, fun _ => rfl⟩ ?_
          rotate_left
          · (intro w; go_simp; first | done | with_reducible rfl)
          refine wpAnyIn_take (i := 3) (v := ?_) rfl rfl (by kernel_rfl) (by kernel_rfl) (by kernel_rfl) (fun _ _ _ h => h) ⟨Or.inl ⟨by rfl, ?_⟩, fun _ => rfl⟩ ?_
          rotate_left
          · (intro w; go_simp; first | done | with_reducible rfl)
          refine wpAnyIn_take (i := 4) (v := ?_) rfl rfl (by kernel_rfl) (by kernel_rfl) (by kernel_rfl) (fun _ _ _ h => h) ⟨Or.inl ⟨by rfl, ?_⟩, fun _ => rfl⟩ ?_
          rotate_left
          · (intro w; go_simp; first | done | with_reducible rfl)
          refine wpAnyIn_take (i := 5) (v := ?_) rfl rfl (by kernel_rfl) (by kernel_rfl) (by kernel_rfl) (fun _ _ _ h => h) ⟨Or.inl ⟨by rfl, ?_⟩, fun _ => rfl⟩ ?_
          rotate_left
          · (intro w; go_simp; first | done | with_reducible rfl)
          refine wpAnyIn_take (i := 7) (v := ?_) rfl rfl (by kernel_rfl) (by kernel_rfl) (by kernel_rfl) (fun _ _ _ h => h) ⟨Or.inl ⟨by rfl, ?_⟩, fun _ => rfl⟩ ?_
          rotate_left
          · (intro w; go_simp; first | done | with_reducible rfl)
          refine wpAnyIn_take (i := 12) (v := ?_) rfl rfl (by kernel_rfl) (by kernel_rfl) (by kernel_rfl) (fun _ _ _ h => h) ⟨Or.inl ⟨by rfl, ?_⟩, fun _ => rfl⟩ ?_
          rotate_left
          · (intro w; go_simp; first | done | with_reducible rfl)
          refine wpAnyIn_ready (rs := [2, 6]) (by kernel_rfl) (by simp) ?_
          refine AllReadyIn.cons rfl (fun K hK => ?_) ?_
          · go_simp
            refine ⟨trivial, (fun h => by cases h), callsIn_of ((CL.out _ EC.out).mono ?_)⟩
            rintro e wv ⟨v38, rfl, ho, hb⟩
            have HO := Lib.hid (own_low ho (show wr.heap.size ≤ _ by simp))
            have EC := Lib.hid (show Ext wr wv from EC.out.trans hb)
            try have BC := Lib.hid (hb.cell (cell_new _ (.string (strOf (t.kids[k]).1)) 9))
            clear ho hb
            refine hK _ _ ?_
            clear hK K
            refine wpAnyIn_ready (rs := [6]) (by kernel_rfl) (by simp) ?_
            refine AllReadyIn.cons rfl (fun K hK => ?_) ?_
            · go_simp
              have f1 := EC.out.cell F1.out
              have f1b := F1.out
              go_simp
              refine hK _ _ ?_
              clear hK K
              clear f1 f1b
              refine wpAnyIn_take (i := 8) (v := ?_) rfl rfl (by kernel_rfl) (by kernel_rfl) (by kernel_rfl) (fun _ _ _ h => h) ⟨Or.inl ⟨by rfl, ?_⟩, fun _ => rfl⟩ ?_
              rotate_left
              · (intro w; go_simp; first | done | with_reducible rfl)
              refine wpAnyIn_ready (rs := [9]) (by kernel_rfl) (by simp) ?_
              refine AllReadyIn.cons rfl (fun K hK => ?_) ?_
              · go_simp
                have q2 := EC.out.cell Q2.out
                have q2b := Q2.out
                go_simp
                refine hK _ _ ?_
                clear hK K
                clear q2 q2b
                refine wpAnyIn_ready (rs := [10]) (by kernel_rfl) (by simp) ?_
                refine AllReadyIn.cons rfl (fun K hK => ?_) ?_
                · go_simp
                  have EC := Lib.hid (show Ext wr _ from EC.out.trans (Ext.alloc _ (.cells #[.string (strOf (t.kids[k]).1)] 9)))
                  refine hK _ _ ?_
                  clear hK K
                  refine wpAnyIn_ready (rs := [11]) (by kernel_rfl) (by simp) ?_
                  refine AllReadyIn.cons rfl (fun K hK => ?_) ?_
                  · refine if_then (by rfl) ?_
                    refine step_of_list (ops := #[]) (by rfl) ?_
                    refine appIn_one appStr rfl _ _ rfl wr.heap.size v38 d.length (strsC d) rfl (by first | exact HO.out | exact own_ext HO.out (Ext.alloc _ _)) _ (.string (strOf (t.kids[k]).1)) rfl (by first | exact BC.out | exact cell_new _ _ _) rfl (by omega) (by have := EC.out.size; simpa using this) ?_
                    intro g9 cap9 w9 hown9 hgr9 hb9
                    have ED := Lib.hid (show DirAt w9 (.slice (some ⟨g9, 0, none⟩) (d.length + 1) cap9) (d ++ [(t.kids[k]).1]) from ⟨_, by rw [List.length_append, List.length_singleton, strsC, List.map_append]; exact hown9⟩)
                    have E9 := Lib.hid (show Ext wr w9 from EC.out.grown hgr9 EC.out.size (fun k e => (HO.out.lt k e).1))
                    clear hown9 hgr9 hb9
                    refine hK _ _ ?_
                    clear hK K
                    refine wpAnyIn_ready (rs := [13]) (by kernel_rfl) (by simp) ?_
                    refine AllReadyIn.cons rfl (fun K hK => ?_) ?_
                    · go_simp
                      refine ⟨trivial, (fun h => by cases h), (KF.out (n - 1) _ w9 ED.out E9.out).mono ?_⟩
                      rintro e w10 ⟨rfl, hj10, hk10⟩
                      have J10 := Lib.hid hj10
                      have K10 := Lib.hid (show KB T w0.heap.size wa w10 from (KR.out.trans (KB.ext ER.out.size E9.out)).trans hk10)
                      clear hj10 hk10
                      refine hK _ _ ?_
                      clear hK K
                      refine wpAnyIn_ready (rs := [14]) (by kernel_rfl) (by simp) ?_
                      refine AllReadyIn.cons rfl (fun K hK => ?_) ?_
                      · go_simp
                        refine hK _ _ ?_
                        clear hK K
                        refine wpAnyIn_done (by kernel_rfl) ?_ _
                        gi_wp2_with fail
                        refine ⟨⟨k + 1, KL.out, by go_num, by have := J10.out; rwa [Nat.add_assoc, ← OS.out] at this, K10.out⟩, by simp [intOf]; omega⟩
                      exact AllReadyIn.nil
                    exact AllReadyIn.nil
                  exact AllReadyIn.nil
                exact AllReadyIn.nil
              exact AllReadyIn.nil
            exact AllReadyIn.nil
          refine AllReadyIn.cons rfl (fun K hK => ?_) ?_
          · go_simp
            have f1 := EC.out.cell F1.out
            have f1b := F1.out
            go_simp
            refine hK _ _ ?_
            clear hK K
            clear f1 f1b
            refine wpAnyIn_take (i := 8) (v := ?_) rfl rfl (by kernel_rfl) (by kernel_rfl) (by kernel_rfl) (fun _ _ _ h => h) ⟨Or.inl ⟨by rfl, ?_⟩, fun _ => rfl⟩ ?_
            rotate_left
            · (intro w; go_simp; first | done | with_reducible rfl)
            refine wpAnyIn_ready (rs := [2, 9]) (by kernel_rfl) (by simp) ?_
            refine AllReadyIn.cons rfl (fun K hK => ?_) ?_
            · go_simp
              refine ⟨trivial, (fun h => by cases h), callsIn_of ((CL.out _ EC.out).mono ?_)⟩
              rintro e wv ⟨v38, rfl, ho, hb⟩
              have HO := Lib.hid (own_low ho (show wr.heap.size ≤ _ by simp))
              have EC := Lib.hid (show Ext wr wv from EC.out.trans hb)
              try have BC := Lib.hid (hb.cell (cell_new _ (.string (strOf (t.kids[k]).1)) 9))
              clear ho hb
              refine hK _ _ ?_
              clear hK K
              refine wpAnyIn_ready (rs := [9]) (by kernel_rfl) (by simp) ?_
              refine AllReadyIn.cons rfl (fun K hK => ?_) ?_
              · go_simp
                have q2 := EC.out.cell Q2.out
                have q2b := Q2.out
                go_simp
                refine hK _ _ ?_
                clear hK K
                clear q2 q2b
                refine wpAnyIn_ready (rs := [10]) (by kernel_rfl) (by simp) ?_
                refine AllReadyIn.cons rfl (fun K hK => ?_) ?_
                · go_simp
                  have EC := Lib.hid (show Ext wr _ from EC.out.trans (Ext.alloc _ (.cells #[.string (strOf (t.kids[k]).1)] 9)))
                  refine hK _ _ ?_
                  clear hK K
                  refine wpAnyIn_ready (rs := [11]) (by kernel_rfl) (by simp) ?_
                  refine AllReadyIn.cons rfl (fun K hK => ?_) ?_
                  · refine if_then (by rfl) ?_
                    refine step_of_list (ops := #[]) (by rfl) ?_
                    refine appIn_one appStr rfl _ _ rfl wr.heap.size v38 d.length (strsC d) rfl (by first | exact HO.out | exact own_ext HO.out (Ext.alloc _ _)) _ (.string (strOf (t.kids[k]).1)) rfl (by first | exact BC.out | exact cell_new _ _ _) rfl (by omega) (by have := EC.out.size; simpa using this) ?_
                    intro g9 cap9 w9 hown9 hgr9 hb9
                    have ED := Lib.hid (show DirAt w9 (.slice (some ⟨g9, 0, none⟩) (d.length + 1) cap9) (d ++ [(t.kids[k]).1]) from ⟨_, by rw [List.length_append, List.length_singleton, strsC, List.map_append]; exact hown9⟩)
                    have E9 := Lib.hid (show Ext wr w9 from EC.out.grown hgr9 EC.out.size (fun k e => (HO.out.lt k e).1))
                    clear hown9 hgr9 hb9
                    refine hK _ _ ?_
                    clear hK K
                    refine wpAnyIn_ready (rs := [13]) (by kernel_rfl) (by simp) ?_
                    refine AllReadyIn.cons rfl (fun K hK => ?_) ?_
                    · go_simp
                      refine ⟨trivial, (fun h => by cases h), (KF.out (n - 1) _ w9 ED.out E9.out).mono ?_⟩
                      rintro e w10 ⟨rfl, hj10, hk10⟩
                      have J10 := Lib.hid hj10
                      have K10 := Lib.hid (show KB T w0.heap.size wa w10 from (KR.out.trans (KB.ext ER.out.size E9.out)).trans hk10)
                      clear hj10 hk10
                      refine hK _ _ ?_
                      clear hK K
                      refine wpAnyIn_ready (rs := [14]) (by kernel_rfl) (by simp) ?_
                      refine AllReadyIn.cons rfl (fun K hK => ?_) ?_
                      · go_simp
                        refine hK _ _ ?_
                        clear hK K
                        refine wpAnyIn_done (by kernel_rfl) ?_ _
                        gi_wp2_with fail
                        refine ⟨⟨k + 1, KL.out, by go_num, by have := J10.out; rwa [Nat.add_assoc, ← OS.out] at this, K10.out⟩, by simp [intOf]; omega⟩
                      exact AllReadyIn.nil
                    exact AllReadyIn.nil
                  exact AllReadyIn.nil
                exact AllReadyIn.nil
              exact AllReadyIn.nil
            refine AllReadyIn.cons rfl (fun K hK => ?_) ?_
            · go_simp
              have q2 := EC.out.cell Q2.out
              have q2b := Q2.out
              go_simp
              refine hK _ _ ?_
              clear hK K
              clear q2 q2b
              refine wpAnyIn_ready (rs := [2, 10]) (by kernel_rfl) (by simp) ?_
              refine AllReadyIn.cons rfl (fun K hK => ?_) ?_
              · go_simp
                refine ⟨trivial, (fun h => by cases h), callsIn_of ((CL.out _ EC.out).mono ?_)⟩
                rintro e wv ⟨v38, rfl, ho, hb⟩
                have HO := Lib.hid (own_low ho (show wr.heap.size ≤ _ by simp))
                have EC := Lib.hid (show Ext wr wv from EC.out.trans hb)
                try have BC := Lib.hid (hb.cell (cell_new _ (.string (strOf (t.kids[k]).1)) 9))
                clear ho hb
                refine hK _ _ ?_
                clear hK K
                refine wpAnyIn_ready (rs := [10]) (by kernel_rfl) (by simp) ?_
                refine AllReadyIn.cons rfl (fun K hK => ?_) ?_
                · go_simp
                  have EC := Lib.hid (show Ext wr _ from EC.out.trans (Ext.alloc _ (.cells #[.string (strOf (t.kids[k]).1)] 9)))
                  refine hK _ _ ?_
                  clear hK K
                  refine wpAnyIn_ready (rs := [11]) (by kernel_rfl) (by simp) ?_
                  refine AllReadyIn.cons rfl (fun K hK => ?_) ?_
                  · refine if_then (by rfl) ?_
                    refine step_of_list (ops := #[]) (by rfl) ?_
                    refine appIn_one appStr rfl _ _ rfl wr.heap.size v38 d.length (strsC d) rfl (by first | exact HO.out | exact own_ext HO.out (Ext.alloc _ _)) _ (.string (strOf (t.kids[k]).1)) rfl (by first | exact BC.out | exact cell_new _ _ _) rfl (by omega) (by have := EC.out.size; simpa using this) ?_
                    intro g9 cap9 w9 hown9 hgr9 hb9
                    have ED := Lib.hid (show DirAt w9 (.slice (some ⟨g9, 0, none⟩) (d.length + 1) cap9) (d ++ [(t.kids[k]).1]) from ⟨_, by rw [List.length_append, List.length_singleton, strsC, List.map_append]; exact hown9⟩)
                    have E9 := Lib.hid (show Ext wr w9 from EC.out.grown hgr9 EC.out.size (fun k e => (HO.out.lt k e).1))
                    clear hown9 hgr9 hb9
                    refine hK _ _ ?_
                    clear hK K
                    refine wpAnyIn_ready (rs := [13]) (by kernel_rfl) (by simp) ?_
                    refine AllReadyIn.cons rfl (fun K hK => ?_) ?_
                    · go_simp
                      refine ⟨trivial, (fun h => by cases h), (KF.out (n - 1) _ w9 ED.out E9.out).mono ?_⟩
                      rintro e w10 ⟨rfl, hj10, hk10⟩
                      have J10 := Lib.hid hj10
                      have K10 := Lib.hid (show KB T w0.heap.size wa w10 from (KR.out.trans (KB.ext ER.out.size E9.out)).trans hk10)
                      clear hj10 hk10
                      refine hK _ _ ?_
                      clear hK K
                      refine wpAnyIn_ready (rs := [14]) (by kernel_rfl) (by simp) ?_
                      refine AllReadyIn.cons rfl (fun K hK => ?_) ?_
                      · go_simp
                        refine hK _ _ ?_
                        clear hK K
                        refine wpAnyIn_done (by kernel_rfl) ?_ _
                        gi_wp2_with fail
                        refine ⟨⟨k + 1, KL.out, by go_num, by have := J10.out; rwa [Nat.add_assoc, ← OS.out] at this, K10.out⟩, by simp [intOf]; omega⟩
                      exact AllReadyIn.nil
                    exact AllReadyIn.nil
                  exact AllReadyIn.nil
                exact AllReadyIn.nil
              refine AllReadyIn.cons rfl (fun K hK => ?_) ?_
              · go_simp
                have EC := Lib.hid (show Ext wr _ from EC.out.trans (Ext.alloc _ (.cells #[.string (strOf (t.kids[k]).1)] 9)))
                refine hK _ _ ?_
                clear hK K
                refine wpAnyIn_ready (rs := [2]) (by kernel_rfl) (by simp) ?_
                refine AllReadyIn.cons rfl (fun K hK => ?_) ?_
                · go_simp
                  refine ⟨trivial, (fun h => by cases h), callsIn_of ((CL.out _ EC.out).mono ?_)⟩
                  rintro e wv ⟨v38, rfl, ho, hb⟩
                  have HO := Lib.hid (own_low ho (show wr.heap.size ≤ _ by simp))
                  have EC := Lib.hid (show Ext wr wv from EC.out.trans hb)
                  try have BC := Lib.hid (hb.cell (cell_new _ (.string (strOf (t.kids[k]).1)) 9))
                  clear ho hb
                  refine hK _ _ ?_
                  clear hK K
                  refine wpAnyIn_ready (rs := [11]) (by kernel_rfl) (by simp) ?_
                  refine AllReadyIn.cons rfl (fun K hK => ?_) ?_
                  · refine if_then (by rfl) ?_
                    refine step_of_list (ops := #[]) (by rfl) ?_
                    refine appIn_one appStr rfl _ _ rfl wr.heap.size v38 d.length (strsC d) rfl (by first | exact HO.out | exact own_ext HO.out (Ext.alloc _ _)) _ (.string (strOf (t.kids[k]).1)) rfl (by first | exact BC.out | exact cell_new _ _ _) rfl (by omega) (by have := EC.out.size; simpa using this) ?_
                    intro g9 cap9 w9 hown9 hgr9 hb9
                    have ED := Lib.hid (show DirAt w9 (.slice (some ⟨g9, 0, none⟩) (d.length + 1) cap9) (d ++ [(t.kids[k]).1]) from ⟨_, by rw [List.length_append, List.length_singleton, strsC, List.map_append]; exact hown9⟩)
                    have E9 := Lib.hid (show Ext wr w9 from EC.out.grown hgr9 EC.out.size (fun k e => (HO.out.lt k e).1))
                    clear hown9 hgr9 hb9
                    refine hK _ _ ?_
                    clear hK K
                    refine wpAnyIn_ready (rs := [13]) (by kernel_rfl) (by simp) ?_
                    refine AllReadyIn.cons rfl (fun K hK => ?_) ?_
                    · go_simp
                      refine ⟨trivial, (fun h => by cases h), (KF.out (n - 1) _ w9 ED.out E9.out).mono ?_⟩
                      rintro e w10 ⟨rfl, hj10, hk10⟩
                      have J10 := Lib.hid hj10
                      have K10 := Lib.hid (show KB T w0.heap.size wa w10 from (KR.out.trans (KB.ext ER.out.size E9.out)).trans hk10)
                      clear hj10 hk10
                      refine hK _ _ ?_
                      clear hK K
                      refine wpAnyIn_ready (rs := [14]) (by kernel_rfl) (by simp) ?_
                      refine AllReadyIn.cons rfl (fun K hK => ?_) ?_
                      · go_simp
                        refine hK _ _ ?_
                        clear hK K
                        refine wpAnyIn_done (by kernel_rfl) ?_ _
                        gi_wp2_with fail
                        refine ⟨⟨k + 1, KL.out, by go_num, by have := J10.out; rwa [Nat.add_assoc, ← OS.out] at this, K10.out⟩, by simp [intOf]; omega⟩
                      exact AllReadyIn.nil
                    exact AllReadyIn.nil
                  exact AllReadyIn.nil
                exact AllReadyIn.nil
              exact AllReadyIn.nil
            exact AllReadyIn.nil
          exact AllReadyIn.nil
        · obtain rfl : k = t.kids.length := by omega
          have JE := JR.out
          have e2 : (hereL A c t ++ belowL t.kids ms).length = here.length + offL ms t.kids.length := by
            rw [List.length_append, ← hh, below_len _ _ hm, hm]
          have E2 := Lib.hid e2
          clear e2
          gi_wp2_with fail
          go_ret
          exact ⟨rfl, by rw [E2.out, ← Nat.add_assoc]; exact JE, KR.out⟩
end Go.Proofs.YtmlfnidckfeebaaGreatDoor
