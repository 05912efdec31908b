/- Walks: the document's tree of some entries. The tree of some entries and the document's: plain. A directory below a directory, in the document's words: plain. -/
import Derived.Test.YteiblfcehlibpaaGreatDoorWD38
namespace Go.Proofs.YteiblfcehlibpaaGreatDoor
open Go.RowKit Go.Shelf
attribute [local go_sem] yUpon strOf_toList
namespace Sp
def rof : List DE → List DE → List DE × Int
  | m, [] => (m, 0)
  | m, e :: r => if (rsetS m e.1 e.2).2 ≠ 0 then ([], (rsetS m e.1 e.2).2) else rof (rsetS m e.1 e.2).1 r
theorem rgo_mem (p : Bs) (vs : List Ver) : ∀ (l : List DE) (b : Bool), ∀ e ∈ rgo p vs b l, e = (p, vs) ∨ e ∈ l
  | [], b, e, h => by
    rw [rgo] at h
    split at h
    · cases h
    · exact .inl (List.mem_singleton.1 h)
  | x :: r, b, e, h => by
    rw [rgo] at h
    rcases List.mem_append.1 h with h | h
    · split at h
      · exact .inl (List.mem_singleton.1 h)
      · cases h
    · rcases List.mem_append.1 h with h | h
      · split at h
        · cases h
        · rw [List.mem_singleton.1 h]; exact .inr (List.mem_cons_self ..)
      · rcases rgo_mem p vs r _ e h with h | h
        · exact .inl h
        · exact .inr (List.mem_cons_of_mem _ h)
/-- Entries that the document has gathered. -/
def GoodM (m : List DE) : Prop := Paths m ∧ m.length ≤ 128
theorem rsetS_ok {m : List DE} {p : Bs} {vs : List Ver} (h : (rsetS m p vs).2 = 0) : check p = 0 ∧ leaf vs = 0 ∧ (rsetS m p vs).1 = rset m p vs ∧ (rset m p vs).length ≤ 128 := by
  unfold rsetS at h ⊢
  by_cases h1 : check p = 0
  · rw [if_neg (by simpa using h1)] at h ⊢
    by_cases h2 : leaf vs = 0
    · rw [if_neg (by simpa using h2)] at h ⊢
      by_cases h3 : 128 < (rset m p vs).length
      · rw [if_pos h3] at h; exact absurd h (by decide)
      · rw [if_neg h3]; exact ⟨h1, h2, rfl, by omega⟩
    · rw [if_pos h2] at h; exact absurd h h2
  · rw [if_pos h1] at h; exact absurd h h1
theorem rsetS_good {m : List DE} {p : Bs} {vs : List Ver} (hm : GoodM m) (h : (rsetS m p vs).2 = 0) : GoodM (rsetS m p vs).1 := by
  obtain ⟨h1, _, h3, h4⟩ := rsetS_ok h
  rw [h3]
  refine ⟨fun e he => ?_, h4⟩
  rcases rgo_mem p vs m _ e he with rfl | he
  · exact h1
  · exact hm.1 e he
theorem goodM_nil : GoodM [] := ⟨(fun e h => by cases h), Nat.zero_le _⟩
theorem rof_good : ∀ (l m : List DE), GoodM m → GoodM (rof m l).1
  | [], m, h => h
  | e :: r, m, h => by
    rw [rof]
    by_cases hc : (rsetS m e.1 e.2).2 = 0
    · rw [if_neg (by simpa using hc)]; exact rof_good r _ (rsetS_good h hc)
    · rw [if_pos hc]; exact goodM_nil
theorem good_len {m : List DE} (h : GoodM m) : ∀ e ∈ m, e.1.length ≤ 1000000 := fun e he => Nat.le_trans (check_parts (h.1 e he)).2.1 (by decide)
end Sp
set_option maxRecDepth 100000 in
set_option maxHeartbeats 4000000 in
theorem rof_calls (l : List Sp.DE) (A : Option Addr) (cap : Nat) (w : World) (h : EntsAt w A l) (hl : l.length ≤ 1000000) (hpl : ∀ e ∈ l, e.1.length ≤ 1000000) :
    Calls Tryz.prog 14 #[.slice A l.length cap] w fun e w' => ∃ B c, e = .returned (.tuple #[.slice B (Sp.rof [] l).1.length c, .int .i64 (Sp.rof [] l).2]) ∧ EntsAt w' B (Sp.rof [] l).1 ∧ Ext w w' := by
  have HH := Lib.hid h
  have HPL := Lib.hid hpl
  have NE := Lib.hid (show ∀ W, EntsAt W none [] from fun W => ⟨[], rfl, Cells.nil _ _, fun x h => by cases h⟩)
  clear h hpl
  go_enter Tryz.func14, Tryz.ntmps14
  go_wp2
  go_loopw [4, 5] (fun v4 v5 wr => ∃ (k : Nat) (m : List Sp.DE) (Bm : Option Addr) (cm : Nat), k ≤ l.length ∧ v4 = .slice Bm m.length cm ∧ v5 = .int .i64 k ∧ EntsAt wr Bm m ∧ Sp.GoodM m ∧ Sp.rof m (l.drop k) = Sp.rof [] l ∧ Ext w wr) (fun _ v5 _ => l.length - (intOf v5).toNat)
  case atStart => exact ⟨0, [], none, 0, Nat.zero_le _, rfl, rfl, NE.out _, Sp.goodM_nil, rfl, Ext.refl _⟩
  case round =>
    obtain ⟨k, m, Bm, cm, hk2, rfl, rfl, hm, hg, hr, hb⟩ := hrel
    have HM := Lib.hid hm
    have HG := Lib.hid hg
    have HB := Lib.hid hb
    clear hm hg hb
    by_cases hlt : k < l.length
    · obtain ⟨eb, eo, rfl, he⟩ := HH.out.at (by omega)
      obtain ⟨Av, cv, c0, c1, hv⟩ := he k hlt
      obtain ⟨x, hx⟩ : ∃ x, x = l[k] := ⟨_, rfl⟩
      have XL := Lib.hid (show x.1.length ≤ 1000000 by rw [hx]; exact HPL.out _ (List.getElem_mem hlt))
      have RS := Lib.hid (show Sp.rof m (x :: l.drop (k + 1)) = Sp.rof [] l by rw [← hr, List.drop_eq_getElem_cons hlt, hx])
      rw [← hx] at c0 c1 hv
      have SC := Lib.hid (rset_calls m Bm cm x.1 x.2 Av cv wr.drew (HM.out.ext (Ext.refl wr).drew) (Nat.le_trans HG.out.2 (by decide)) (Sp.good_len HG.out) XL.out ((hv.ext HB.out).ext (Ext.refl wr).drew))
      have b1 : (k : Int) < (l.length : Int) := by omega
      have x0 := HB.out.cell c0
      have x1 := HB.out.cell c1
      have tokL : True := trivial
      clear hr he hx hv c0 c1
      go_wp2_with fail
      go_region_law (have _tL := tokL; refine step_call rfl 46 #[.slice Bm m.length cm, .string (strOf x.1), .slice Av x.2.length cv] (by go_simp) SC.out ?_; rintro e w3 ⟨B3, c3, rfl, he3, hb3⟩; have HE3 := Lib.hid he3; have B3' := Lib.hid (show Ext wr w3 from Below.trans (Below.refl _ _).drew hb3); clear he3 hb3 tokL _tL; refine ⟨_, rfl, ?_⟩)
      all_goals (
        obtain ⟨cc, hcc⟩ : ∃ cc, cc = (Sp.rsetS m x.1 x.2).2 := ⟨_, rfl⟩
        rw [← hcc]
        by_cases hc : cc = 0
        · have hz : (Sp.rsetS m x.1 x.2).2 = 0 := by rw [← hcc]; exact hc
          have G2 := Lib.hid (Sp.rsetS_good HG.out hz)
          have RS2 := Lib.hid (show Sp.rof (Sp.rsetS m x.1 x.2).1 (l.drop (k + 1)) = Sp.rof [] l by
            have := RS.out
            rw [Sp.rof, if_neg (by simpa using hz)] at this
            exact this)
          subst hc
          clear hcc hz
          go_wp2
          refine ⟨⟨k + 1, _, B3, c3, by omega, rfl, by go_num, HE3.out, G2.out, RS2.out, HB.out.trans B3'.out⟩, by simp [intOf]; omega⟩
        · have RS2 := Lib.hid (show Sp.rof [] l = ([], cc) by
            have := RS.out
            rw [Sp.rof, if_pos (by rw [← hcc]; exact hc), ← hcc] at this
            exact this.symm)
          have e1 : (cc == 0) = false := by rw [beq_eq_false_iff_ne]; exact hc
          clear hcc hc
          go_wp2
          go_ret2
          rw [RS2.out]
          first
            | exact ⟨none, 0, rfl, NE.out _, HB.out.trans B3'.out⟩
            | exact ⟨none, ⟨0, rfl⟩, NE.out _, HB.out.trans B3'.out⟩)
    · obtain rfl : k = l.length := by omega
      rw [List.drop_length] at hr
      have RG := Lib.hid (show (m, (0 : Int)) = Sp.rof [] l from hr)
      clear hr
      go_wp2
      go_ret2
      rw [← RG.out]
      first
        | exact ⟨Bm, cm, rfl, HM.out, HB.out⟩
        | exact ⟨Bm, ⟨cm, rfl⟩, HM.out, HB.out⟩
end Go.Proofs.YteiblfcehlibpaaGreatDoor
namespace Go.Proofs.YteiblfcehlibpaaGreatDoor
open Go.RowKit
namespace Sp
theorem toP_len (m : List DE) : (toP m).length = m.length := List.length_map ..
theorem riseO {o : Option T} (h : ∀ t, o = some t → Ok t) : RiseE (entriesO o) := by
  cases o with
  | none => exact List.Pairwise.nil
  | some t => exact entries_rise t (h t rfl)
/-- What a leaf at a path comes to, in the tree and in the document's list. -/
theorem set_both {o : Option T} {m : List DE} (he : toP m = entriesO o) (ho : GoodO o) (p : Bs) (l : List Ver) :
    (rsetS m p l).2 = setCode o p l ∧ (setCode o p l = 0 → toP (rsetS m p l).1 = entriesO (withO o (split p) l)) := by
  have e1 : toP (rset m p l) = entriesO (withO o (split p) l) := by
    rw [rgo_setE p l m (by rw [he]; exact riseO ho.1), he, with_entries _ _ _ ho.1]
  have e2 : (rset m p l).length = (entriesO (withO o (split p) l)).length := by rw [← e1, toP_len]
  by_cases h1 : check p = 0
  · by_cases h2 : leaf l = 0
    · by_cases h3 : 128 < (entriesO (withO o (split p) l)).length
      · have a1 : rsetS m p l = ([], 4) := by unfold rsetS; rw [if_neg (by simpa using h1), if_neg (by simpa using h2), if_pos (by rw [e2]; exact h3)]
        have a2 : setCode o p l = 4 := by unfold setCode; rw [if_neg (by simpa using h1), if_neg (by simpa using h2), if_pos h3]
        rw [a1, a2]; exact ⟨rfl, fun h => absurd h (by decide)⟩
      · have a1 : rsetS m p l = (rset m p l, 0) := by unfold rsetS; rw [if_neg (by simpa using h1), if_neg (by simpa using h2), if_neg (by rw [e2]; exact h3)]
        have a2 : setCode o p l = 0 := by unfold setCode; rw [if_neg (by simpa using h1), if_neg (by simpa using h2), if_neg h3]
        rw [a1, a2]; exact ⟨rfl, fun _ => e1⟩
    · have a1 : rsetS m p l = ([], leaf l) := by unfold rsetS; rw [if_neg (by simpa using h1), if_pos h2]
      have a2 : setCode o p l = leaf l := by unfold setCode; rw [if_neg (by simpa using h1), if_pos h2]
      rw [a1, a2]; exact ⟨rfl, fun h => absurd h h2⟩
  · have a1 : rsetS m p l = ([], check p) := by unfold rsetS; rw [if_pos h1]
    have a2 : setCode o p l = check p := by unfold setCode; rw [if_pos h1]
    rw [a1, a2]; exact ⟨rfl, fun h => absurd h h1⟩
theorem of_both : ∀ (l : List DE) (o : Option T) (m : List DE), toP m = entriesO o → GoodO o → (rof m l).2 = (ofT o l).2 ∧ toP (rof m l).1 = entriesO (ofT o l).1
  | [], o, m, he, _ => ⟨rfl, he⟩
  | e :: r, o, m, he, ho => by
    obtain ⟨s1, s2⟩ := set_both he ho e.1 e.2
    rw [rof, ofT, s1]
    by_cases hc : setCode o e.1 e.2 = 0
    · rw [if_neg (by simpa using hc), if_neg (by simpa using hc)]
      exact of_both r _ _ (s2 hc) (setCode_good hc ho)
    · rw [if_pos hc, if_pos hc]; exact ⟨rfl, rfl⟩
theorem entries_getD (o : Option T) : entries (o.getD .nil) = entriesO o := by
  cases o with
  | none => rfl
  | some t => rfl
theorem check_of_parts {d : Bs} (h : parts d ≠ []) : check d = 0 := by
  have h51 : ¬ 51 < d.length := fun hh => h (by unfold parts; rw [if_pos hh])
  unfold check
  rw [if_neg h51, if_neg (fun hh => h (List.eq_nil_of_length_eq_zero hh))]
theorem rget_bad {m : List DE} (hm : Paths m) {d : Bs} (h : check d ≠ 0) : rget m d = [] := by
  induction m with
  | nil => rfl
  | cons e r ih =>
    rw [rget, if_neg (fun hh => h (by rw [← hh]; exact hm e (List.mem_cons_self ..)))]
    exact ih fun x hx => hm x (List.mem_cons_of_mem _ hx)
theorem under_bad2 {p d : Bs} (h1 : d ≠ []) (h2 : parts d = []) : under p d = false := by
  unfold under
  simp [h1, h2]
theorem rnames_bad {d : Bs} (h1 : d ≠ []) (h2 : parts d = []) : ∀ (m : List DE) (out : List Bs), rnames d out m = out
  | [], _ => rfl
  | e :: r, out => by rw [rnames, under_bad2 h1 h2]; exact rnames_bad h1 h2 r out
/-- What the document finds at a directory is what the tree has there. -/
theorem at_both {o : Option T} {m : List DE} (he : toP m = entriesO o) (ho : GoodO o) (hm : GoodM m) (d : Bs) (hd : Dir d) :
    subs (toP m) (parts d) = entriesO (findT (o.getD .nil) (parts d)) ∧ ∀ s, findT (o.getD .nil) (parts d) = some s → Ok s ∧ rget m d = s.leaf ∧ rnames d [] m = s.kids.map (·.1) := by
  have hk : Ok (o.getD .nil) := by
    cases o with
    | none => exact ⟨fun h => absurd rfl h, List.Pairwise.nil, trivial⟩
    | some t => exact ho.1 t rfl
  obtain ⟨f1, f2⟩ := findT_subs (parts d) (o.getD .nil) hk
  rw [entries_getD, ← he] at f1
  refine ⟨f1, fun s hs => ?_⟩
  rw [hs] at f1
  have hok := f2 s hs
  refine ⟨hok, ?_, ?_⟩
  · rw [get_subs m hm.1 d hd, f1]
    cases s with
    | mk leaf k => exact get0_entries leaf k
  · rw [names_subs d hd m hm.1 [], f1]
    cases s with
    | mk leaf k => exact namesE_entries leaf k hok.2.1 hok.2.2
theorem there_both {o : Option T} {m : List DE} (he : toP m = entriesO o) (ho : GoodO o) (hm : GoodM m) (d : Bs) : rthere m d = (findS (o.getD .nil) d).isSome := by
  have hk : Ok (o.getD .nil) := by
    cases o with
    | none => exact ⟨fun h => absurd rfl h, List.Pairwise.nil, trivial⟩
    | some t => exact ho.1 t rfl
  unfold rthere findS
  by_cases hd : d = []
  · simp [hd]
  · by_cases hp : parts d = []
    · have hc : check d ≠ 0 := fun h => by
        have h2 := (check_parts h).1
        rw [hp] at h2
        exact split_ne d h2.symm
      rw [rget_bad hm.1 hc, rnames_bad hd hp]
      simp [hd, hp]
    · have hdir : Dir d := .inr (check_of_parts hp)
      obtain ⟨f1, f2⟩ := at_both he ho hm d hdir
      rw [if_neg hd, if_neg hp]
      cases hf : findT (o.getD .nil) (parts d) with
      | none =>
        rw [hf] at f1
        rw [get_subs m hm.1 d hdir, names_subs d hdir m hm.1 [], f1]
        simp [hd, entriesO, get0, namesE]
      | some s =>
        obtain ⟨g1, g2, g3⟩ := f2 s hf
        have hne := findT_ne (parts d) (o.getD .nil) s hk hp hf
        rw [g2, g3]
        cases s with
        | mk leaf k =>
          by_cases hl : leaf = []
          · by_cases hkk : k = []
            · exact absurd (by rw [hl, hkk]; rfl) hne
            · simp [T.leaf, T.kids, hkk]
          · simp [T.leaf, hl]
end Sp
end Go.Proofs.YteiblfcehlibpaaGreatDoor
namespace Go.Proofs.YteiblfcehlibpaaGreatDoor
open Go.RowKit
namespace Sp
theorem subs_snoc : ∀ (d : List Bs) (E : List PE) (n : Bs), subs E (d ++ [n]) = sub1 (subs E d) n
  | [], _, _ => rfl
  | _ :: d, E, n => subs_snoc d (sub1 E _) n
/-- The kid of a name that stands there. -/
theorem kid_at : ∀ (k : List (Bs × T)) (i : Nat) (h : i < k.length), Rise k → kid k (k[i]).1 = some (k[i]).2
  | (m, s) :: r, 0, _, _ => by rw [kid, List.getElem_cons_zero, if_pos rfl]
  | (m, s) :: r, i + 1, h, hr => by
    obtain ⟨h1, h2⟩ := List.pairwise_cons.1 hr
    have hi : i < r.length := by simpa using h
    have hne : ¬ m = (r[i]).1 := by
      intro e
      have := h1 (r[i]).1 (List.mem_map_of_mem (List.getElem_mem hi))
      rw [← e, less_irr] at this
      cases this
    rw [List.getElem_cons_succ, kid, if_neg hne]
    exact kid_at r i hi h2
/-- No slash is in a name. -/
theorem name_slash {n : Bs} (h : name n = true) : ∀ c ∈ n, c ≠ 47 := by
  intro c hc e
  subst e
  unfold name at h
  simp only [Bool.and_eq_true] at h
  have := List.all_eq_true.1 h.2 _ hc
  exact absurd this (by decide)
theorem split_plain : ∀ (s : Bs), (∀ c ∈ s, c ≠ 47) → split s = [s]
  | [], _ => rfl
  | c :: r, h => by
    have ih := split_plain r fun x hx => h x (List.mem_cons_of_mem _ hx)
    rw [split, if_neg (h c (List.mem_cons_self ..)), ih]
theorem split_cat : ∀ (s : Bs) (r : Bs), (∀ c ∈ s, c ≠ 47) → split (s ++ 47 :: r) = s :: split r
  | [], r, _ => by rw [List.nil_append, split, if_pos rfl]
  | c :: s, r, h => by
    have ih := split_cat s r fun x hx => h x (List.mem_cons_of_mem _ hx)
    rw [List.cons_append, split, if_neg (h c (List.mem_cons_self ..)), ih]
theorem split_join : ∀ (a : List Bs), a ≠ [] → (∀ n ∈ a, ∀ c ∈ n, c ≠ 47) → split (joinP a) = a
  | [], h, _ => absurd rfl h
  | [s], _, hn => by rw [joinP]; exact split_plain s (hn s (List.mem_cons_self ..))
  | s :: b :: r, _, hn => by
    rw [joinP, split_cat s _ (hn s (List.mem_cons_self ..)), split_join (b :: r) (by simp) fun n h => hn n (List.mem_cons_of_mem _ h)]
theorem join_len : ∀ (a q : List Bs), a ≠ [] → (joinP a).length ≤ (joinP (a ++ q)).length
  | [], _, h => absurd rfl h
  | [s], [], _ => Nat.le_refl _
  | [s], b :: q, _ => by
    show s.length ≤ (joinP (s :: b :: q)).length
    rw [joinP]; simp
  | s :: b :: r, q, _ => by
    have := join_len (b :: r) q (by simp)
    rw [List.cons_append, List.cons_append, joinP, joinP]
    rw [List.cons_append] at this
    simp; omega
/-- What stands ahead in a path is a path. -/
theorem check_prefix {p : Bs} {a q : List Bs} (hp : check p = 0) (h : split p = a ++ q) (ha : a ≠ []) : check (joinP a) = 0 ∧ parts (joinP a) = a := by
  obtain ⟨_, h51, h4, hall⟩ := check_parts hp
  have hn : ∀ n ∈ a, name n = true := fun n hn => List.all_eq_true.1 hall n (by rw [h]; exact List.mem_append_left _ hn)
  have hs := split_join a ha fun n hnn => name_slash (hn n hnn)
  have hl : (joinP a).length ≤ 51 := by
    have h1 := join_len a q ha
    rw [← h, join_split] at h1
    omega
  have hpa : parts (joinP a) = a := by
    unfold parts
    rw [if_neg (by omega), hs, if_neg (by rw [h, List.length_append] at h4; omega), if_pos (List.all_eq_true.2 hn)]
  refine ⟨?_, hpa⟩
  exact check_of_parts (by rw [hpa]; exact ha)
theorem down_join : ∀ (a : List Bs) (n : Bs), joinP (a ++ [n]) = if a = [] then n else joinP a ++ 47 :: n
  | [], n => rfl
  | [s], n => rfl
  | s :: b :: r, n => by
    have ih := down_join (b :: r) n
    rw [if_neg (by simp)] at ih ⊢
    rw [List.cons_append, List.cons_append, joinP, ← List.cons_append, ih, joinP]
    simp
theorem dir_join {d : Bs} (h : Dir d) : d = joinP (parts d) := by
  rcases h with rfl | h
  · rw [parts_empty]; rfl
  · rw [(check_parts h).1, join_split]
theorem down_is {d : Bs} (h : Dir d) (n : Bs) : down d n = joinP (parts d ++ [n]) := by
  rw [down_join, ← dir_join h]
  unfold down
  rcases h with rfl | h
  · rw [if_pos rfl, if_pos parts_empty]
  · have h1 : d ≠ [] := by rintro rfl; exact check_nil h
    have h2 : parts d ≠ [] := by rw [(check_parts h).1]; exact split_ne d
    rw [if_neg h1, if_neg h2]
/-- A kid's directory, in the document's list. -/
theorem kid_dir {m : List DE} (hm : GoodM m) {d : Bs} (hd : Dir d) {s : T} (hs : Ok s) (he : subs (toP m) (parts d) = entries s) (i : Nat) (h : i < s.kids.length) :
    Dir (down d (s.kids[i]).1) ∧ parts (down d (s.kids[i]).1) = parts d ++ [(s.kids[i]).1] ∧ subs (toP m) (parts (down d (s.kids[i]).1)) = entries (s.kids[i]).2 ∧ Ok (s.kids[i]).2 := by
  cases s with
  | mk leaf k =>
    obtain ⟨_, hr, hk⟩ := hs
    change i < k.length at h
    show Dir (down d (k[i]).1) ∧ parts (down d (k[i]).1) = parts d ++ [(k[i]).1] ∧ subs (toP m) (parts (down d (k[i]).1)) = entries (k[i]).2 ∧ Ok (k[i]).2
    have hka := kid_at k i h hr
    have e1 : subs (toP m) (parts d ++ [(k[i]).1]) = entries (k[i]).2 := by
      rw [subs_snoc, he, sub1_entries _ leaf k hr, hka]; rfl
    have hne := kid_ne k _ _ hk hka
    have hok := kid_ok k _ _ hk hka
    rw [← e1] at hne
    obtain ⟨e, hmem⟩ := List.exists_mem_of_ne_nil _ hne
    rw [subs_strip] at hmem
    obtain ⟨e0, h0, h1⟩ := List.mem_filterMap.1 hmem
    obtain ⟨e00, h00, rfl⟩ := List.mem_map.1 h0
    cases hst : stripP (parts d ++ [(k[i]).1]) (split e00.1) with
    | none => rw [hst] at h1; cases h1
    | some q =>
      have hsp := (stripP_some _ _ _).1 hst
      obtain ⟨c1, c2⟩ := check_prefix (hm.1 e00 h00) hsp (by simp)
      rw [← down_is hd] at c1 c2
      exact ⟨.inr c1, c2, by rw [c2]; exact e1, hok⟩
end Sp
end Go.Proofs.YteiblfcehlibpaaGreatDoor
