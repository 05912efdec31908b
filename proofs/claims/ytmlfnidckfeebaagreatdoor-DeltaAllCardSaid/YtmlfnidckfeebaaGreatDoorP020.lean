/- Walks: the document's tree of some entries. The tree of some entries and the document's: plain. A directory below a directory, in the document's words: plain. Walks: versions that nobody else has: each of their rows is of its own type. Walks: Entries: all paths and leaves of a tree. Walks: slices.IndexFunc and slices.DeleteFunc at entries. Walks: walk.Under, walk.List. Walks: what is seen of entries: the document's. Walks: the document's node of a directory is the tree's. What is found in a tree is what the document's list has there: plain. What is seen of a tree is a tree; a tree's entries with whole paths: plain. Walks: whether leaves, and entries, are too much to be asked. Walks: chapter 15's examples. -/
import Derived.Sort.CutIn
import Derived.Stop.BytesEq
import Derived.Test.YtmlfnidckfeebaaGreatDoorP019
namespace Go.Proofs.YtmlfnidckfeebaaGreatDoor
open Go.RowKit Go.Shelf
attribute [local go_sem] yUpon strOf_toList
namespace Sp
def rof : List DE → List DE → List DE × Int
  | m, [] => (m, 0)
  | m, e :: r => if (rsetS m e.1 e.2).2 ≠ 0 then ([], (rsetS m e.1 e.2).2) else rof (rsetS m e.1 e.2).1 r
theorem rgo_mem (p : Bs) (vs : List Ver) : ∀ (l : List DE) (b : Bool), ∀ e ∈ rgo p vs b l, e = (p, vs) ∨ e ∈ l
  | [], b, e, h => by
    rw [rgo] at h
    split at h
    · cases h
    · exact .inl (List.mem_singleton.1 h)
  | x :: r, b, e, h => by
    rw [rgo] at h
    rcases List.mem_append.1 h with h | h
    · split at h
      · exact .inl (List.mem_singleton.1 h)
      · cases h
    · rcases List.mem_append.1 h with h | h
      · split at h
        · cases h
        · rw [List.mem_singleton.1 h]; exact .inr (List.mem_cons_self ..)
      · rcases rgo_mem p vs r _ e h with h | h
        · exact .inl h
        · exact .inr (List.mem_cons_of_mem _ h)
/-- Entries that the document has gathered. -/
def GoodM (m : List DE) : Prop := Paths m ∧ m.length ≤ 128
theorem rsetS_ok {m : List DE} {p : Bs} {vs : List Ver} (h : (rsetS m p vs).2 = 0) : check p = 0 ∧ leaf vs = 0 ∧ (rsetS m p vs).1 = rset m p vs ∧ (rset m p vs).length ≤ 128 := by
  unfold rsetS at h ⊢
  by_cases h1 : check p = 0
  · rw [if_neg (by simpa using h1)] at h ⊢
    by_cases h2 : leaf vs = 0
    · rw [if_neg (by simpa using h2)] at h ⊢
      by_cases h3 : 128 < (rset m p vs).length
      · rw [if_pos h3] at h; exact absurd h (by decide)
      · rw [if_neg h3]; exact ⟨h1, h2, rfl, by omega⟩
    · rw [if_pos h2] at h; exact absurd h h2
  · rw [if_pos h1] at h; exact absurd h h1
theorem rsetS_good {m : List DE} {p : Bs} {vs : List Ver} (hm : GoodM m) (h : (rsetS m p vs).2 = 0) : GoodM (rsetS m p vs).1 := by
  obtain ⟨h1, _, h3, h4⟩ := rsetS_ok h
  rw [h3]
  refine ⟨fun e he => ?_, h4⟩
  rcases rgo_mem p vs m _ e he with rfl | he
  · exact h1
  · exact hm.1 e he
theorem goodM_nil : GoodM [] := ⟨(fun e h => by cases h), Nat.zero_le _⟩
theorem rof_good : ∀ (l m : List DE), GoodM m → GoodM (rof m l).1
  | [], m, h => h
  | e :: r, m, h => by
    rw [rof]
    by_cases hc : (rsetS m e.1 e.2).2 = 0
    · rw [if_neg (by simpa using hc)]; exact rof_good r _ (rsetS_good h hc)
    · rw [if_pos hc]; exact goodM_nil
theorem good_len {m : List DE} (h : GoodM m) : ∀ e ∈ m, e.1.length ≤ 1000000 := fun e he => Nat.le_trans (check_parts (h.1 e he)).2.1 (by decide)
end Sp
set_option maxRecDepth 100000 in
set_option maxHeartbeats 4000000 in
theorem rof_calls (l : List Sp.DE) (A : Option Addr) (cap : Nat) (w : World) (h : EntsAt w A l) (hl : l.length ≤ 1000000) (hpl : ∀ e ∈ l, e.1.length ≤ 1000000) :
    Calls Tryz.prog 18 #[.slice A l.length cap] w fun e w' => ∃ B c, e = .returned (.tuple #[.slice B (Sp.rof [] l).1.length c, .int .i64 (Sp.rof [] l).2]) ∧ EntsAt w' B (Sp.rof [] l).1 ∧ Ext w w' := by
  have HH := Lib.hid h
  have HPL := Lib.hid hpl
  have NE := Lib.hid (show ∀ W, EntsAt W none [] from fun W => ⟨[], rfl, Cells.nil _ _, fun x h => by cases h⟩)
  clear h hpl
  go_enter Tryz.func18, Tryz.ntmps18
  go_wp2
  go_loopw [4, 5] (fun v4 v5 wr => ∃ (k : Nat) (m : List Sp.DE) (Bm : Option Addr) (cm : Nat), k ≤ l.length ∧ v4 = .slice Bm m.length cm ∧ v5 = .int .i64 k ∧ EntsAt wr Bm m ∧ Sp.GoodM m ∧ Sp.rof m (l.drop k) = Sp.rof [] l ∧ Ext w wr) (fun _ v5 _ => l.length - (intOf v5).toNat)
  case atStart => exact ⟨0, [], none, 0, Nat.zero_le _, rfl, rfl, NE.out _, Sp.goodM_nil, rfl, Ext.refl _⟩
  case round =>
    obtain ⟨k, m, Bm, cm, hk2, rfl, rfl, hm, hg, hr, hb⟩ := hrel
    have HM := Lib.hid hm
    have HG := Lib.hid hg
    have HB := Lib.hid hb
    clear hm hg hb
    by_cases hlt : k < l.length
    · obtain ⟨eb, eo, rfl, he⟩ := HH.out.at (by omega)
      obtain ⟨Av, cv, c0, c1, hv⟩ := he k hlt
      obtain ⟨x, hx⟩ : ∃ x, x = l[k] := ⟨_, rfl⟩
      have XL := Lib.hid (show x.1.length ≤ 1000000 by rw [hx]; exact HPL.out _ (List.getElem_mem hlt))
      have RS := Lib.hid (show Sp.rof m (x :: l.drop (k + 1)) = Sp.rof [] l by rw [← hr, List.drop_eq_getElem_cons hlt, hx])
      rw [← hx] at c0 c1 hv
      have SC := Lib.hid (rset_calls m Bm cm x.1 x.2 Av cv wr.drew (HM.out.ext (Ext.refl wr).drew) (Nat.le_trans HG.out.2 (by decide)) (Sp.good_len HG.out) XL.out ((hv.ext HB.out).ext (Ext.refl wr).drew))
      have b1 : (k : Int) < (l.length : Int) := by omega
      have x0 := HB.out.cell c0
      have x1 := HB.out.cell c1
      have tokL : True := trivial
      clear hr he hx hv c0 c1
      go_wp2_with fail
      go_region_law (have _tL := tokL; refine step_call rfl 72 #[.slice Bm m.length cm, .string (strOf x.1), .slice Av x.2.length cv] (by go_simp) SC.out ?_; rintro e w3 ⟨B3, c3, rfl, he3, hb3⟩; have HE3 := Lib.hid he3; have B3' := Lib.hid (show Ext wr w3 from Below.trans (Below.refl _ _).drew hb3); clear he3 hb3 tokL _tL; refine ⟨_, rfl, ?_⟩)
      all_goals (
        obtain ⟨cc, hcc⟩ : ∃ cc, cc = (Sp.rsetS m x.1 x.2).2 := ⟨_, rfl⟩
        rw [← hcc]
        by_cases hc : cc = 0
        · have hz : (Sp.rsetS m x.1 x.2).2 = 0 := by rw [← hcc]; exact hc
          have G2 := Lib.hid (Sp.rsetS_good HG.out hz)
          have RS2 := Lib.hid (show Sp.rof (Sp.rsetS m x.1 x.2).1 (l.drop (k + 1)) = Sp.rof [] l by
            have := RS.out
            rw [Sp.rof, if_neg (by simpa using hz)] at this
            exact this)
          subst hc
          clear hcc hz
          go_wp2
          refine ⟨⟨k + 1, _, B3, c3, by omega, rfl, by go_num, HE3.out, G2.out, RS2.out, HB.out.trans B3'.out⟩, by simp [intOf]; omega⟩
        · have RS2 := Lib.hid (show Sp.rof [] l = ([], cc) by
            have := RS.out
            rw [Sp.rof, if_pos (by rw [← hcc]; exact hc), ← hcc] at this
            exact this.symm)
          have e1 : (cc == 0) = false := by rw [beq_eq_false_iff_ne]; exact hc
          clear hcc hc
          go_wp2
          go_ret2
          rw [RS2.out]
          first
            | exact ⟨none, 0, rfl, NE.out _, HB.out.trans B3'.out⟩
            | exact ⟨none, ⟨0, rfl⟩, NE.out _, HB.out.trans B3'.out⟩)
    · obtain rfl : k = l.length := by omega
      rw [List.drop_length] at hr
      have RG := Lib.hid (show (m, (0 : Int)) = Sp.rof [] l from hr)
      clear hr
      go_wp2
      go_ret2
      rw [← RG.out]
      first
        | exact ⟨Bm, cm, rfl, HM.out, HB.out⟩
        | exact ⟨Bm, ⟨cm, rfl⟩, HM.out, HB.out⟩
end Go.Proofs.YtmlfnidckfeebaaGreatDoor
namespace Go.Proofs.YtmlfnidckfeebaaGreatDoor
open Go.RowKit
namespace Sp
theorem toP_len (m : List DE) : (toP m).length = m.length := List.length_map ..
theorem riseO {o : Option T} (h : ∀ t, o = some t → Ok t) : RiseE (entriesO o) := by
  cases o with
  | none => exact List.Pairwise.nil
  | some t => exact entries_rise t (h t rfl)
/-- What a leaf at a path comes to, in the tree and in the document's list. -/
theorem set_both {o : Option T} {m : List DE} (he : toP m = entriesO o) (ho : GoodO o) (p : Bs) (l : List Ver) :
    (rsetS m p l).2 = setCode o p l ∧ (setCode o p l = 0 → toP (rsetS m p l).1 = entriesO (withO o (split p) l)) := by
  have e1 : toP (rset m p l) = entriesO (withO o (split p) l) := by
    rw [rgo_setE p l m (by rw [he]; exact riseO ho.1), he, with_entries _ _ _ ho.1]
  have e2 : (rset m p l).length = (entriesO (withO o (split p) l)).length := by rw [← e1, toP_len]
  by_cases h1 : check p = 0
  · by_cases h2 : leaf l = 0
    · by_cases h3 : 128 < (entriesO (withO o (split p) l)).length
      · have a1 : rsetS m p l = ([], 4) := by unfold rsetS; rw [if_neg (by simpa using h1), if_neg (by simpa using h2), if_pos (by rw [e2]; exact h3)]
        have a2 : setCode o p l = 4 := by unfold setCode; rw [if_neg (by simpa using h1), if_neg (by simpa using h2), if_pos h3]
        rw [a1, a2]; exact ⟨rfl, fun h => absurd h (by decide)⟩
      · have a1 : rsetS m p l = (rset m p l, 0) := by unfold rsetS; rw [if_neg (by simpa using h1), if_neg (by simpa using h2), if_neg (by rw [e2]; exact h3)]
        have a2 : setCode o p l = 0 := by unfold setCode; rw [if_neg (by simpa using h1), if_neg (by simpa using h2), if_neg h3]
        rw [a1, a2]; exact ⟨rfl, fun _ => e1⟩
    · have a1 : rsetS m p l = ([], leaf l) := by unfold rsetS; rw [if_neg (by simpa using h1), if_pos h2]
      have a2 : setCode o p l = leaf l := by unfold setCode; rw [if_neg (by simpa using h1), if_pos h2]
      rw [a1, a2]; exact ⟨rfl, fun h => absurd h h2⟩
  · have a1 : rsetS m p l = ([], check p) := by unfold rsetS; rw [if_pos h1]
    have a2 : setCode o p l = check p := by unfold setCode; rw [if_pos h1]
    rw [a1, a2]; exact ⟨rfl, fun h => absurd h h1⟩
theorem of_both : ∀ (l : List DE) (o : Option T) (m : List DE), toP m = entriesO o → GoodO o → (rof m l).2 = (ofT o l).2 ∧ toP (rof m l).1 = entriesO (ofT o l).1
  | [], o, m, he, _ => ⟨rfl, he⟩
  | e :: r, o, m, he, ho => by
    obtain ⟨s1, s2⟩ := set_both he ho e.1 e.2
    rw [rof, ofT, s1]
    by_cases hc : setCode o e.1 e.2 = 0
    · rw [if_neg (by simpa using hc), if_neg (by simpa using hc)]
      exact of_both r _ _ (s2 hc) (setCode_good hc ho)
    · rw [if_pos hc, if_pos hc]; exact ⟨rfl, rfl⟩
theorem entries_getD (o : Option T) : entries (o.getD .nil) = entriesO o := by
  cases o with
  | none => rfl
  | some t => rfl
theorem check_of_parts {d : Bs} (h : parts d ≠ []) : check d = 0 := by
  have h51 : ¬ 51 < d.length := fun hh => h (by unfold parts; rw [if_pos hh])
  unfold check
  rw [if_neg h51, if_neg (fun hh => h (List.eq_nil_of_length_eq_zero hh))]
/-- What the document finds at a directory is what the tree has there. -/
theorem at_both {o : Option T} {m : List DE} (he : toP m = entriesO o) (ho : GoodO o) (hm : GoodM m) (d : Bs) (hd : Dir d) :
    subs (toP m) (parts d) = entriesO (findT (o.getD .nil) (parts d)) ∧ ∀ s, findT (o.getD .nil) (parts d) = some s → Ok s ∧ rget m d = s.leaf ∧ rnames d [] m = s.kids.map (·.1) := by
  have hk : Ok (o.getD .nil) := by
    cases o with
    | none => exact ⟨fun h => absurd rfl h, List.Pairwise.nil, trivial⟩
    | some t => exact ho.1 t rfl
  obtain ⟨f1, f2⟩ := findT_subs (parts d) (o.getD .nil) hk
  rw [entries_getD, ← he] at f1
  refine ⟨f1, fun s hs => ?_⟩
  rw [hs] at f1
  have hok := f2 s hs
  refine ⟨hok, ?_, ?_⟩
  · rw [get_subs m hm.1 d hd, f1]
    cases s with
    | mk leaf k => exact get0_entries leaf k
  · rw [names_subs d hd m hm.1 [], f1]
    cases s with
    | mk leaf k => exact namesE_entries leaf k hok.2.1 hok.2.2
end Sp
end Go.Proofs.YtmlfnidckfeebaaGreatDoor
namespace Go.Proofs.YtmlfnidckfeebaaGreatDoor
open Go.RowKit
namespace Sp
/-- The kid of a name that stands there. -/
theorem kid_at : ∀ (k : List (Bs × T)) (i : Nat) (h : i < k.length), Rise k → kid k (k[i]).1 = some (k[i]).2
  | (m, s) :: r, 0, _, _ => by rw [kid, List.getElem_cons_zero, if_pos rfl]
  | (m, s) :: r, i + 1, h, hr => by
    obtain ⟨h1, h2⟩ := List.pairwise_cons.1 hr
    have hi : i < r.length := by simpa using h
    have hne : ¬ m = (r[i]).1 := by
      intro e
      have := h1 (r[i]).1 (List.mem_map_of_mem (List.getElem_mem hi))
      rw [← e, less_irr] at this
      cases this
    rw [List.getElem_cons_succ, kid, if_neg hne]
    exact kid_at r i hi h2
/-- No slash is in a name. -/
theorem name_slash {n : Bs} (h : name n = true) : ∀ c ∈ n, c ≠ 47 := by
  intro c hc e
  subst e
  unfold name at h
  simp only [Bool.and_eq_true] at h
  have := List.all_eq_true.1 h.2 _ hc
  exact absurd this (by decide)
theorem split_plain : ∀ (s : Bs), (∀ c ∈ s, c ≠ 47) → split s = [s]
  | [], _ => rfl
  | c :: r, h => by
    have ih := split_plain r fun x hx => h x (List.mem_cons_of_mem _ hx)
    rw [split, if_neg (h c (List.mem_cons_self ..)), ih]
theorem split_cat : ∀ (s : Bs) (r : Bs), (∀ c ∈ s, c ≠ 47) → split (s ++ 47 :: r) = s :: split r
  | [], r, _ => by rw [List.nil_append, split, if_pos rfl]
  | c :: s, r, h => by
    have ih := split_cat s r fun x hx => h x (List.mem_cons_of_mem _ hx)
    rw [List.cons_append, split, if_neg (h c (List.mem_cons_self ..)), ih]
theorem split_join : ∀ (a : List Bs), a ≠ [] → (∀ n ∈ a, ∀ c ∈ n, c ≠ 47) → split (joinP a) = a
  | [], h, _ => absurd rfl h
  | [s], _, hn => by rw [joinP]; exact split_plain s (hn s (List.mem_cons_self ..))
  | s :: b :: r, _, hn => by
    rw [joinP, split_cat s _ (hn s (List.mem_cons_self ..)), split_join (b :: r) (by simp) fun n h => hn n (List.mem_cons_of_mem _ h)]
theorem join_len : ∀ (a q : List Bs), a ≠ [] → (joinP a).length ≤ (joinP (a ++ q)).length
  | [], _, h => absurd rfl h
  | [s], [], _ => Nat.le_refl _
  | [s], b :: q, _ => by
    show s.length ≤ (joinP (s :: b :: q)).length
    rw [joinP]; simp
  | s :: b :: r, q, _ => by
    have := join_len (b :: r) q (by simp)
    rw [List.cons_append, List.cons_append, joinP, joinP]
    rw [List.cons_append] at this
    simp; omega
/-- What stands ahead in a path is a path. -/
theorem check_prefix {p : Bs} {a q : List Bs} (hp : check p = 0) (h : split p = a ++ q) (ha : a ≠ []) : check (joinP a) = 0 ∧ parts (joinP a) = a := by
  obtain ⟨_, h51, h4, hall⟩ := check_parts hp
  have hn : ∀ n ∈ a, name n = true := fun n hn => List.all_eq_true.1 hall n (by rw [h]; exact List.mem_append_left _ hn)
  have hs := split_join a ha fun n hnn => name_slash (hn n hnn)
  have hl : (joinP a).length ≤ 51 := by
    have h1 := join_len a q ha
    rw [← h, join_split] at h1
    omega
  have hpa : parts (joinP a) = a := by
    unfold parts
    rw [if_neg (by omega), hs, if_neg (by rw [h, List.length_append] at h4; omega), if_pos (List.all_eq_true.2 hn)]
  refine ⟨?_, hpa⟩
  exact check_of_parts (by rw [hpa]; exact ha)
theorem down_join : ∀ (a : List Bs) (n : Bs), joinP (a ++ [n]) = if a = [] then n else joinP a ++ 47 :: n
  | [], n => rfl
  | [s], n => rfl
  | s :: b :: r, n => by
    have ih := down_join (b :: r) n
    rw [if_neg (by simp)] at ih ⊢
    rw [List.cons_append, List.cons_append, joinP, ← List.cons_append, ih, joinP]
    simp
theorem dir_join {d : Bs} (h : Dir d) : d = joinP (parts d) := by
  rcases h with rfl | h
  · rw [parts_empty]; rfl
  · rw [(check_parts h).1, join_split]
theorem down_is {d : Bs} (h : Dir d) (n : Bs) : down d n = joinP (parts d ++ [n]) := by
  rw [down_join, ← dir_join h]
  unfold down
  rcases h with rfl | h
  · rw [if_pos rfl, if_pos parts_empty]
  · have h1 : d ≠ [] := by rintro rfl; exact check_nil h
    have h2 : parts d ≠ [] := by rw [(check_parts h).1]; exact split_ne d
    rw [if_neg h1, if_neg h2]
end Sp
end Go.Proofs.YtmlfnidckfeebaaGreatDoor
namespace Go.Proofs.YtmlfnidckfeebaaGreatDoor
open Go.RowKit Go.Shelf
attribute [local go_sem] yUpon
theorem own_lowT {w : World} {b b' n : Nat} {e : TypeId} {size : Nat} {v : Value} {xs : List Value} (h : w.ownsRow b e size v n xs) (hb : b' ≤ b) : w.ownsRow b' e size v n xs := by
  refine ⟨h.1, ?_⟩
  rcases h.2 with h2 | ⟨g, cap, cur, hv, hg, rest⟩
  · exact .inl h2
  · exact .inr ⟨g, cap, cur, hv, Nat.le_trans hb hg, rest⟩
theorem own_keep {T : TypeId → Prop} {e : TypeId} (hT : ¬ T e) {B b n size : Nat} {w w' : World} {v : Value} {xs : List Value} (h : w.ownsRow b e size v n xs) (k : KB T B w w') : w'.ownsRow b e size v n xs := by
  refine ⟨h.1, ?_⟩
  rcases h.2 with h2 | ⟨g, cap, cur, hv, hg, hh, rest⟩
  · exact .inl h2
  · exact .inr ⟨g, cap, cur, hv, hg, k.row _ _ _ _ hh hT, rest⟩
/-- Where a version's vector lies, in a row of dots. -/
def PastT (w : World) (x : Option Addr × Nat × Sp.Ver) : Prop := w.ownsRow 0 68 2 (.slice x.1 x.2.2.past.length x.2.1) x.2.2.past.length (dotsC x.2.2.past) ∧ x.2.2.past.length ≤ 140737488351232
/-- Versions in rows of their own types. -/
def OwnVersT (w : World) (v : Value) (l : List Sp.Ver) : Prop := ∃ m : List (Option Addr × Nat × Sp.Ver), m.map (·.2.2) = l ∧ w.ownsRow 0 71 5 v l.length (versC m) ∧ ∀ x ∈ m, PastT w x
theorem OwnVersT.keep {T : TypeId → Prop} (h1 : ¬ T 71) (h2 : ¬ T 68) {B : Nat} {w w' : World} {v : Value} {l : List Sp.Ver} (h : OwnVersT w v l) (k : KB T B w w') : OwnVersT w' v l := by
  obtain ⟨m, e1, e2, e3⟩ := h
  exact ⟨m, e1, own_keep h1 e2 k, fun x hx => ⟨own_keep h2 (e3 x hx).1 k, (e3 x hx).2⟩⟩
end Go.Proofs.YtmlfnidckfeebaaGreatDoor
namespace Go.Proofs.YtmlfnidckfeebaaGreatDoor
open Go.RowKit Go.Shelf
attribute [local go_sem] yUpon strOf_toList Oper.semAt_some encL
namespace Sp
mutual
theorem ent_leaf : ∀ t, Ok t → ∀ e ∈ entries t, leaf e.2 = 0
  | .mk l k, h, e, he => by
    rw [entries] at he
    rcases List.mem_append.1 he with he | he
    · by_cases h0 : l = []
      · rw [if_pos h0] at he; cases he
      · rw [if_neg h0] at he
        obtain rfl := List.mem_singleton.1 he
        exact h.1 h0
    · exact entL_leaf k h.2.2 e he
theorem entL_leaf : ∀ k, OkL k → ∀ e ∈ entriesL k, leaf e.2 = 0
  | [], _, e, he => by cases he
  | (n, t) :: r, h, e, he => by
    rw [entriesL] at he
    rcases List.mem_append.1 he with he | he
    · obtain ⟨y, hy, rfl⟩ := List.mem_map.1 he
      exact ent_leaf t h.2.2.1 y hy
    · exact entL_leaf r h.2.2.2 e he
end
theorem told_fit {o : Option T} (h : GoodO o) : ∀ e ∈ entriesO o, e.2.length ≤ 1000000 ∧ ∀ u ∈ e.2, u.past.length ≤ 1000000 := fun e he => by
  cases o with
  | none => cases he
  | some t =>
    have l0 := ent_leaf t (h.1 t rfl) e he
    exact ⟨Nat.le_trans (leaf_ok l0).1 (by decide), fun u hu => Nat.le_trans ((leaf_fit fun _ => l0).2 u hu) (by decide)⟩
/-- The entries of a tree, with whole paths. -/
def told (o : Option T) : List DE := (entriesO o).map fun e => (joinP e.1, e.2)
end Sp
theorem tree_ptr {w : World} {v : Value} {o : Option Sp.T} (h : TreeAt w v o) : ∃ a, v = .pointer a := by
  rcases h with ⟨_, rfl⟩ | ⟨g, p, rfl, _⟩
  · exact ⟨_, rfl⟩
  · exact ⟨_, rfl⟩
def tellL (x : LE) : Sp.DE := (Sp.joinP x.2.2.1, x.2.2.2)
/-- What was put into the list, of the first so many. -/
def Put (w : World) (g : Nat) (m : List LE) (i : Nat) (W : World) : Prop :=
  ∃ (v : Value) (mo : List (Option Addr × Nat × Sp.DE)), isBlk W g 22 #[v] ∧ W.ownsRow (w.heap.size + 1) 43 2 v i (entsC mo) ∧ mo.map (·.2.2) = (m.take i).map tellL ∧ (∀ x ∈ mo, OwnVersT W (.slice x.1 x.2.2.2.length x.2.1) x.2.2.2) ∧ Ext w W
theorem Put.keep {w : World} {g : Nat} {m : List LE} {i : Nat} {W W' : World} (h : Put w g m i W) (k : KB noT w.heap.size W W') : Put w g m i W' := by
  obtain ⟨v, mo, h1, h2, h3, h4, h5⟩ := h
  exact ⟨v, mo, k.row _ _ _ _ h1 (fun h => h), own_keep (fun h => h) h2 k, h3, fun x hx => (h4 x hx).keep (fun h => h) (fun h => h) k, Below.trans h5 k.below⟩
/-- Entries in a row of the call's own; their leaves too. -/
def EntsOwn (w : World) (B : Nat) (v : Value) (l : List Sp.DE) : Prop := ∃ mo : List (Option Addr × Nat × Sp.DE), mo.map (·.2.2) = l ∧ w.ownsRow B 43 2 v l.length (entsC mo) ∧ ∀ x ∈ mo, OwnVersT w (.slice x.1 x.2.2.2.length x.2.1) x.2.2.2
theorem EntsOwn.keep {T : TypeId → Prop} (h0 : ¬ T 43) (h1 : ¬ T 71) (h2 : ¬ T 68) {b B : Nat} {w w' : World} {v : Value} {l : List Sp.DE} (h : EntsOwn w B v l) (k : KB T b w w') : EntsOwn w' B v l := by
  obtain ⟨mo, e1, e2, e3⟩ := h
  exact ⟨mo, e1, own_keep h0 e2 k, fun x hx => (e3 x hx).keep h1 h2 k⟩
theorem Put.own {w : World} {g : Nat} {m : List LE} {W : World} (h : Put w g m m.length W) : ∃ v, isBlk W g 22 #[v] ∧ EntsOwn W w.heap.size v (m.map tellL) := by
  obtain ⟨v, mo, h1, h2, h3, h4, h5⟩ := h
  rw [List.take_length] at h3
  exact ⟨v, h1, mo, h3, by rw [List.length_map]; exact own_lowT h2 (Nat.le_succ _), h4⟩
theorem KB.grown {T : TypeId → Prop} {B b n size : Nat} {w w' : World} {e : TypeId} {v : Value} {xs : List Value} (h : w.ownsRow b e size v n xs) (hT : T e) (hg : w.grownBy w' v.ownBlock) (hB : Below B w w') : KB T B w w' :=
  ⟨hB, fun k cs t f hk ht => (hg.block k (Array.getElem?_eq_some_iff.1 hk).1 (fun e2 => by
    rcases h.2 with ⟨hv, _⟩ | ⟨g, cap, cur, hv, _, hh, _⟩
    · rw [hv] at e2; cases e2
    · rw [hv] at e2
      have e3 : k = g := Option.some.inj e2
      rw [e3, hh] at hk
      injection hk with hk
      injection hk with _ h5
      exact ht (h5 ▸ hT))).trans hk⟩
theorem KB.set {T : TypeId → Prop} {B g i : Nat} {w : World} {t : TypeId} {cs : Array Value} (hx : isBlk w g t cs) (hT : T t) (hB : B ≤ g) (u : Value) : KB T B w (w.setCell ⟨g, i, none⟩ u) :=
  ⟨(Below.refl _ _).setCell hB _, fun k cs' t' f hk ht => (Below.heap_setCell _ _ _ _ (fun e => by
    rw [show k = g from e, show w.heap[g]? = _ from hx] at hk
    injection hk with hk
    injection hk with _ h5
    exact ht (h5 ▸ hT))).trans hk⟩
theorem cell_keep {B g o : Nat} {W W' : World} {v : Value} (k : KB noT B W W') (h : W.cell? ⟨g, o, none⟩ = some v) : W'.cell? ⟨g, o, none⟩ = some v := by
  cases hg : W.heap[g]? with
  | none => simp [World.cell?, hg] at h
  | some ob =>
    cases ob with
    | cells cs t f =>
      have h2 := k.row _ _ _ _ hg (fun h => h)
      simp only [World.cell?, hg] at h
      simp only [World.cell?, h2]
      exact h
    | _ => simp [World.cell?, hg] at h
theorem Cells.keep {B : Nat} {W W' : World} {A : Option Addr} {cs : List Value} (h : Cells W A cs) (k : KB noT B W W') : Cells W' A cs := fun hn => by
  obtain ⟨g, o, hA, hc⟩ := h hn
  exact ⟨g, o, hA, fun i u hi => cell_keep k (hc i u hi)⟩
theorem Vers.keep {B : Nat} {W W' : World} {A : Option Addr} {l : List Sp.Ver} (h : Vers W A l) (k : KB noT B W W') : Vers W' A l := by
  obtain ⟨m, h1, h2, h3⟩ := h
  exact ⟨m, h1, h2.keep k, fun x hx => ⟨Cells.keep (h3 x hx).1 k, (h3 x hx).2⟩⟩
theorem EntsAt.keep {B : Nat} {W W' : World} {A : Option Addr} {l : List Sp.DE} (h : EntsAt W A l) (k : KB noT B W W') : EntsAt W' A l := by
  obtain ⟨m, h1, h2, h3⟩ := h
  exact ⟨m, h1, h2.keep k, fun x hx => (h3 x hx).keep k⟩
end Go.Proofs.YtmlfnidckfeebaaGreatDoor
namespace Go.Proofs.YtmlfnidckfeebaaGreatDoor
open Go.RowKit Go.Shelf
attribute [local go_sem] yUpon strOf_toList
/-- An entry in memory: where its leaf lies, its room, what it is. -/
abbrev E3 := Option Addr × Nat × Sp.DE
theorem entsC_cons (x : E3) (r : List E3) : entsC (x :: r) = .string (strOf x.2.2.1) :: .slice x.1 x.2.2.2.length x.2.1 :: entsC r := rfl
theorem entsC_take : ∀ (mo : List E3) (k : Nat), (entsC mo).take (k * 2) = entsC (mo.take k)
  | [], k => by simp [entsC]
  | x :: r, 0 => by simp [entsC]
  | x :: r, k + 1 => by
    rw [show (k + 1) * 2 = k * 2 + 1 + 1 by omega, List.take_succ_cons, entsC_cons, entsC_cons, List.take_succ_cons, List.take_succ_cons, entsC_take r k]
theorem own_take {w : World} {B g n cap : Nat} {e : TypeId} {size : Nat} {xs : List Value} (h : w.ownsRow B e size (.slice (some ⟨g, 0, none⟩) n cap) n xs) (k : Nat) (hk : k ≤ n) :
    w.ownsRow B e size (.slice (some ⟨g, 0, none⟩) k cap) k (xs.take (k * size)) := by
  obtain ⟨hl, h⟩ := h
  refine ⟨by rw [List.length_take, hl]; exact Nat.min_eq_left (Nat.mul_le_mul_right _ hk), ?_⟩
  rcases h with ⟨h, _⟩ | ⟨g', cap', cur, hv, hb, hh, hn, hc, hs, ht⟩
  · cases h
  · cases hv
    refine .inr ⟨g, cap, cur, rfl, hb, hh, Nat.le_trans hk hn, hc, hs, ?_⟩
    rw [← ht, List.take_take, Nat.min_eq_left (Nat.mul_le_mul_right _ hk)]
end Go.Proofs.YtmlfnidckfeebaaGreatDoor
namespace Go.Proofs.YtmlfnidckfeebaaGreatDoor
open Go.RowKit Go.Shelf
attribute [local go_sem] yUpon strOf_toList
namespace Sp
/-- Is a path below a directory, behind a text? -/
def behind (d a p : Bs) : Bool := under p d && decide (0 < compare p a)
end Sp
theorem EntsOwn.take {w : World} {B : Nat} {g n cap : Nat} {l : List Sp.DE} (h : EntsOwn w B (.slice (some ⟨g, 0, none⟩) n cap) l) (hn : n = l.length) (k : Nat) (hk : k ≤ n) : EntsOwn w B (.slice (some ⟨g, 0, none⟩) k cap) (l.take k) := by
  obtain ⟨mo, h1, h2, h3⟩ := h
  subst hn
  have hml : mo.length = l.length := by rw [← h1, List.length_map]
  refine ⟨mo.take k, by rw [List.map_take, h1], ?_, fun x hx => h3 x (List.mem_of_mem_take hx)⟩
  have h4 := own_take h2 k hk
  rw [entsC_take] at h4
  have e : (l.take k).length = k := by rw [List.length_take]; omega
  rw [e]
  exact h4
end Go.Proofs.YtmlfnidckfeebaaGreatDoor
namespace Go.Proofs.YtmlfnidckfeebaaGreatDoor
open Go.RowKit Go.Shelf
attribute [local go_sem] yUpon strOf_toList
namespace Sp
end Sp
/-- An entry whose versions were gathered: their vectors were there before. -/
def LiveAt (w wr : World) (x : Option Addr × Nat × Sp.DE) : Prop := ∃ mv : List (Option Addr × Nat × Sp.Ver), mv.map (·.2.2) = x.2.2.2 ∧ wr.ownsRow 0 71 5 (.slice x.1 x.2.2.2.length x.2.1) x.2.2.2.length (versC mv) ∧ ∀ y ∈ mv, Past w y.1 y.2.2
theorem LiveAt.keep {T : TypeId → Prop} (hT : ¬ T 71) {B : Nat} {w wr w' : World} {x : Option Addr × Nat × Sp.DE} (h : LiveAt w wr x) (k : KB T B wr w') : LiveAt w w' x := by
  obtain ⟨mv, h1, h2, h3⟩ := h
  exact ⟨mv, h1, own_keep hT h2 k, h3⟩
end Go.Proofs.YtmlfnidckfeebaaGreatDoor
namespace Go.Proofs.YtmlfnidckfeebaaGreatDoor
open Go.RowKit Go.Shelf
theorem dir_len {d : Sp.Bs} (h : Sp.Dir d) : d.length ≤ 51 := by
  rcases h with rfl | h
  · exact Nat.zero_le _
  · exact (Sp.check_parts h).2.1
end Go.Proofs.YtmlfnidckfeebaaGreatDoor
namespace Go.Proofs.YtmlfnidckfeebaaGreatDoor
open Go.RowKit
section
variable {P : Program} {ops : Array Oper} {T : World → Prop}
end
namespace Sp
theorem findT_small : ∀ (d : List Bs) (t s : T), findT t d = some s → sizeT s ≤ sizeT t
  | [], t, s, e => by cases e; exact Nat.le_refl _
  | n :: d, t, s, e => by
    rw [findT] at e
    cases hk : kid t.kids n with
    | none => rw [hk] at e; cases e
    | some u =>
      rw [hk] at e
      have h1 := kid_size t.kids n u hk
      have h2 := sizeT_n0 t
      have h3 := findT_small d u s e
      omega
end Sp
end Go.Proofs.YtmlfnidckfeebaaGreatDoor
namespace Go.Proofs.YtmlfnidckfeebaaGreatDoor
open Go.RowKit
namespace Sp
theorem told_eq {o : Option T} {m : List DE} (he : toP m = entriesO o) : told o = m := by
  unfold told
  rw [← he]
  unfold toP
  rw [List.map_map]
  conv => rhs; rw [← List.map_id m]
  refine List.map_congr_left fun e _ => ?_
  show (joinP (split e.1), e.2) = e
  rw [join_split]
theorem told_leaf {o : Option T} {m : List DE} (he : toP m = entriesO o) (ho : GoodO o) : ∀ e ∈ m, e.2.length ≤ 1000000 := fun e h => by
  have : (split e.1, e.2) ∈ entriesO o := by rw [← he]; exact List.mem_map_of_mem h
  exact (told_fit ho _ this).1
end Sp
end Go.Proofs.YtmlfnidckfeebaaGreatDoor
namespace Go.Proofs.YtmlfnidckfeebaaGreatDoor
open Go.RowKit Go.Shelf
attribute [local go_sem] yUpon strOf_toList
set_option maxRecDepth 100000 in
set_option maxHeartbeats 4000000 in
/-- One leaf. -/
theorem great7_calls (vs : List Sp.Ver) (A : Option Addr) (cap gb : Nat) (w : World) (hx : isBlk w gb 41 #[.slice A vs.length cap]) (h : Vers w A vs) :
    Calls Tryz.prog 102 #[.slice (some ⟨gb, 0, none⟩) 1 1] w fun e w' => ∃ b : Bool, e = .returned (.bool b) ∧ w = w' := by
  have HV := Lib.hid h
  have f0 := (hx.cell 0).trans rfl
  clear h hx
  go_enter Tryz.func102, Tryz.ntmps102
  go_wp2
  go_loopw [3] (fun v3 wr => ∃ k : Nat, k ≤ 1 ∧ v3 = .int .i64 k ∧ w = wr) (fun v3 _ => 1 - (intOf v3).toNat)
  case atStart => exact ⟨0, Nat.zero_le _, rfl, rfl⟩
  case round =>
    obtain ⟨k, hk, rfl, rfl⟩ := hrel
    by_cases hlt : k < 1
    · obtain rfl : k = 0 := by omega
      by_cases h70 : 70 < vs.length
      · have c1 : (70 : Int) < (vs.length : Int) := by omega
        go_wp2
        go_ret
        exact ⟨true, rfl, rfl⟩
      · have c1 : ¬ (70 : Int) < (vs.length : Int) := by omega
        have c2 : vs.length ≤ 70 := by omega
        go_wp2
        go_loopw [4, 5] (fun v4 v5 wr => ∃ (j n : Nat), j ≤ vs.length ∧ n ≤ 400 ∧ v4 = .int .i64 n ∧ v5 = .int .i64 j ∧ w = wr) (fun _ v5 _ => vs.length - (intOf v5).toNat)
        case atStart => exact ⟨0, 0, Nat.zero_le _, Nat.zero_le _, rfl, rfl, rfl⟩
        case round =>
          obtain ⟨j, n, hj, hn, rfl, rfl, rfl⟩ := hrel
          by_cases hjl : j < vs.length
          · obtain ⟨a, o, rfl, hat⟩ := HV.out.at (by omega)
            obtain ⟨A', cap', hv, hp⟩ := hat j hjl
            obtain ⟨x, hxx⟩ : ∃ x, x = vs[j] := ⟨_, rfl⟩
            rw [← hxx] at hv hp
            have g2 := hv.c2
            have g4 := hv.c4
            have hpl := hp.2
            obtain ⟨q, hq⟩ : ∃ q, q = x.past.length := ⟨_, rfl⟩
            rw [← hq] at g2 hpl
            obtain ⟨n2, hn2⟩ : ∃ n2, n2 = n + q := ⟨_, rfl⟩
            have w1 : IntKind.i64.wrap ((n : Int) + (q : Int)) = (n2 : Int) := by rw [IntKind.wrap_i64]; omega
            have b1 : (j : Int) < (vs.length : Int) := by omega
            clear hat hv hp hxx hq hn2
            by_cases h4 : 400 < n2
            · have e1 : (400 : Int) < (n2 : Int) := by omega
              go_wp2
              go_ret
              exact ⟨true, rfl, rfl⟩
            · have e1 : ¬ (400 : Int) < (n2 : Int) := by omega
              have e2 : n2 ≤ 400 := by omega
              by_cases h2 : 200 < (strOf x.data).size
              · have e3 : (200 : Int) < ((strOf x.data).size : Int) := by omega
                go_wp2
                go_ret
                first
                  | exact ⟨true, rfl, rfl⟩
                  | exact .inr rfl
                  | exact .inr ⟨rfl, rfl⟩
                  | (simp; done)
              · have e3 : ¬ (200 : Int) < ((strOf x.data).size : Int) := by omega
                go_wp2
                go_roundw
                case rel => exact ⟨j + 1, n2, by omega, e2, rfl, by go_num, by first | rfl | trivial⟩
                case measure => simp [intOf]; omega
          · obtain rfl : j = vs.length := by omega
            go_wp2
            go_roundw
            case rel => exact ⟨1, Nat.le_refl _, by go_num, by first | rfl | trivial⟩
            case measure => simp [intOf]
    · obtain rfl : k = 1 := by omega
      go_wp2
      go_ret
      exact ⟨false, rfl, rfl⟩
set_option maxRecDepth 100000 in
set_option maxHeartbeats 4000000 in
/-- Entries: what holds if they are not too much. -/
theorem great15_calls (l : List Sp.DE) (A : Option Addr) (cap most : Nat) (w : World) (h : EntsAt w A l) (hmost : most ≤ 1000) :
    Calls Tryz.prog 37 #[.slice A l.length cap, .int .i64 most] w fun e w' => ∃ b : Bool, e = .returned (.bool b) ∧ (b = false → l.length ≤ most ∧ ∀ e ∈ l, e.1.length ≤ 200) ∧ Ext w w' := by
  have HH := Lib.hid h
  clear h
  go_enter Tryz.func37, Tryz.ntmps37
  by_cases hm : most < l.length
  · have c1 : (most : Int) < (l.length : Int) := by omega
    go_wp2
    go_ret
    exact ⟨true, rfl, (fun h => by cases h), Ext.refl _⟩
  · have c1 : ¬ (most : Int) < (l.length : Int) := by omega
    have c0 : l.length ≤ most := by omega
    have CM := Lib.hid c0
    have cl : l.length ≤ 1000 := by omega
    go_wp2
    go_loopw [5] (fun v5 wr => ∃ k : Nat, k ≤ l.length ∧ v5 = .int .i64 k ∧ (∀ i (h : i < l.length), i < k → (l[i]).1.length ≤ 200) ∧ Ext w wr) (fun v5 _ => l.length - (intOf v5).toNat)
    case atStart => exact ⟨0, Nat.zero_le _, rfl, fun i h h0 => absurd h0 (Nat.not_lt_zero i), Ext.refl _⟩
    case round =>
      obtain ⟨k, hk, rfl, ha, hb⟩ := hrel
      have HA := Lib.hid ha
      have HB := Lib.hid hb
      clear ha
      by_cases hlt : k < l.length
      · obtain ⟨eb, eo, rfl, he⟩ := HH.out.at (by omega)
        obtain ⟨Av, cv, e0, e1, hv⟩ := he k hlt
        have e0' := hb.cell e0
        have e1' := hb.cell e1
        obtain ⟨x, hx⟩ : ∃ x, x = l[k] := ⟨_, rfl⟩
        rw [← hx] at e0' e1' hv
        have HX := Lib.hid hx
        have HV := Lib.hid hv
        have b1 : (k : Int) < (l.length : Int) := by omega
        clear he e0 e1 hx hv hb
        by_cases h2 : 200 < (strOf x.1).size
        · have d1 : (200 : Int) < ((strOf x.1).size : Int) := by omega
          go_wp2
          go_ret
          exact ⟨true, rfl, (fun h => by cases h), HB.out⟩
        · have d1 : ¬ (200 : Int) < ((strOf x.1).size : Int) := by omega
          have P200 := Lib.hid (show x.1.length ≤ 200 by rw [strOf_size] at h2; omega)
          go_wp2_with fail
          have GC := great7_calls x.2 Av cv wr.heap.size (wr.alloc (.cells #[.slice Av x.2.length cv] 41)) (heap_alloc_new _ _) (HV.out.ext (HB.out.trans (Ext.alloc _ _)))
          refine GC.mono ?_
          rintro e w1 ⟨b, rfl, hw1⟩
          have B1 := Lib.hid (show Ext w w1 by rw [← hw1]; exact HB.out.trans (Ext.alloc _ _))
          clear hw1 GC
          cases b with
          | true =>
            go_wp2
            go_ret
            exact ⟨true, rfl, (fun h => by cases h), B1.out⟩
          | false =>
            go_wp2
            refine ⟨⟨k + 1, by omega, by go_num, fun i hi h1 => ?_, B1.out⟩, by simp [intOf]; omega⟩
            by_cases hik : i = k
            · subst hik
              have := P200.out
              rw [HX.out] at this
              exact this
            · exact HA.out i hi (by omega)
      · obtain rfl : k = l.length := by omega
        go_wp2
        go_ret
        exact ⟨false, rfl, fun _ => ⟨CM.out, fun e he => by
          obtain ⟨i, hi, rfl⟩ := List.getElem_of_mem he
          exact HA.out i hi hi⟩, HB.out⟩
end Go.Proofs.YtmlfnidckfeebaaGreatDoor
namespace Go.Proofs.YtmlfnidckfeebaaGreatDoor
open Go.RowKit Go.Shelf
attribute [local go_sem] yUpon strOf_toList
theorem dig_guard : Tryz.prog.eqGuardType Tryz.prog.depth 36 = false := by kernel_rfl
end Go.Proofs.YtmlfnidckfeebaaGreatDoor
