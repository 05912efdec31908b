/- Deltas, plain: what is opened by the nodes of two trees is what the document opens. What a reader takes: plain. -/
import Derived.Test.YtmlfnidckfeebaaGreatDoorM38
import Derived.Test.YtmlfnidckfeebaaGreatDoorM02
namespace Go.Proofs.YtmlfnidckfeebaaGreatDoor
open Go.RowKit
namespace Sp
abbrev RiseN (l : List Bs) : Prop := l.Pairwise fun x y => Op.bytesLess x y = true
theorem rise_ext : ∀ (a b : List Bs), RiseN a → RiseN b → (∀ x, x ∈ a ↔ x ∈ b) → a = b
  | [], [], _, _, _ => rfl
  | [], y :: s, _, _, h => absurd ((h y).2 (List.mem_cons_self ..)) (by simp)
  | x :: r, [], _, _, h => absurd ((h x).1 (List.mem_cons_self ..)) (by simp)
  | x :: r, y :: s, ha, hb, h => by
    obtain ⟨a1, a2⟩ := List.pairwise_cons.1 ha
    obtain ⟨b1, b2⟩ := List.pairwise_cons.1 hb
    have e : x = y := by
      rcases List.mem_cons.1 ((h x).1 (List.mem_cons_self ..)) with e | hx
      · exact e
      · rcases List.mem_cons.1 ((h y).2 (List.mem_cons_self ..)) with e | hy
        · exact e.symm
        · have := less_trans (a1 y hy) (b1 x hx)
          rw [less_irr] at this
          cases this
    subst e
    have hr : ∀ z, z ∈ r ↔ z ∈ s := fun z => by
      constructor
      · intro hz
        rcases List.mem_cons.1 ((h z).1 (List.mem_cons_of_mem _ hz)) with e | hz2
        · subst e
          have := a1 z hz
          rw [less_irr] at this
          cases this
        · exact hz2
      · intro hz
        rcases List.mem_cons.1 ((h z).2 (List.mem_cons_of_mem _ hz)) with e | hz2
        · subst e
          have := b1 z hz
          rw [less_irr] at this
          cases this
        · exact hz2
    rw [rise_ext r s a2 b2 hr]
theorem compare_name {a b : Bs} (ha : name a = true) (hb : name b = true) : compare a b ≤ 0 ↔ a = b ∨ Op.bytesLess a b = true := by
  unfold compare
  rw [split_plain a (name_slash ha), split_plain b (name_slash hb), less_cmp]
  show (if a = b then cmpP [] [] else Lib.compareBytes a b) ≤ 0 ↔ _
  by_cases h : a = b
  · simp [h, cmpP]
  · rw [if_neg h]
    have h0 : Lib.compareBytes a b ≠ 0 := fun e => h ((cmpB_eq a b).1 e)
    rcases cmpB_range a b with h1 | h1 | h1
    · simp [h1]
    · exact absurd h1 h0
    · simp [h1, h]
theorem put18_true (s : Bs) : ∀ (l : List Bs), (∀ x ∈ l, Op.bytesLess s x = true) → put18 s true l = l
  | [], _ => by rw [put18]; rfl
  | x :: r, h => by
    have h1 : ¬ x = s := by
      rintro rfl
      have := h x (List.mem_cons_self ..)
      rw [less_irr] at this
      cases this
    rw [put18, if_neg (by simp), if_neg h1, Bool.true_or, put18_true s r fun y hy => h y (List.mem_cons_of_mem _ hy)]
    rfl
theorem put18_rise (s : Bs) (hs : name s = true) : ∀ (l : List Bs), RiseN l → (∀ x ∈ l, name x = true) → RiseN (put18 s false l) ∧ ∀ x, x ∈ put18 s false l ↔ x = s ∨ x ∈ l
  | [], _, _ => by
    rw [put18, if_neg (by decide)]
    exact ⟨List.pairwise_singleton .., fun x => by simp⟩
  | y :: r, hl, hn => by
    obtain ⟨h1, h2⟩ := List.pairwise_cons.1 hl
    have hy := hn y (List.mem_cons_self ..)
    have hc := compare_name hs hy
    rw [put18]
    by_cases h : compare s y ≤ 0
    · rw [if_pos ⟨rfl, h⟩, decide_eq_true h, Bool.or_true]
      have hlr : ∀ x ∈ r, Op.bytesLess s x = true := fun x hx => by
        rcases hc.1 h with e | h3
        · rw [e]; exact h1 x hx
        · exact less_trans h3 (h1 x hx)
      rw [put18_true s r hlr]
      by_cases he : y = s
      · rw [if_pos he]
        subst he
        exact ⟨hl, fun x => by simp⟩
      · rw [if_neg he]
        have hsy : Op.bytesLess s y = true := (hc.1 h).resolve_left fun e => he e.symm
        refine ⟨List.pairwise_cons.2 ⟨fun x hx => ?_, hl⟩, fun x => by simp⟩
        rcases List.mem_cons.1 hx with rfl | hx
        · exact hsy
        · exact hlr x hx
    · rw [if_neg (fun h3 => h h3.2), decide_eq_false h, Bool.or_false]
      have hne : ¬ y = s := fun e => h (hc.2 (.inl e.symm))
      have hys : Op.bytesLess y s = true := by
        have hsy : ¬ Op.bytesLess s y = true := fun e => h (hc.2 (.inr e))
        exact less_other (fun e => hne e.symm) hsy
      obtain ⟨i1, i2⟩ := put18_rise s hs r h2 fun x hx => hn x (List.mem_cons_of_mem _ hx)
      rw [if_neg hne]
      show RiseN (y :: put18 s false r) ∧ ∀ x, x ∈ y :: put18 s false r ↔ _
      refine ⟨List.pairwise_cons.2 ⟨fun x hx => ?_, i1⟩, fun x => ?_⟩
      · rcases (i2 x).1 hx with rfl | hx
        · exact hys
        · exact h1 x hx
      · rw [List.mem_cons, i2 x, List.mem_cons]
        constructor
        · rintro (h | h | h)
          · exact .inr (.inl h)
          · exact .inl h
          · exact .inr (.inr h)
        · rintro (h | h | h)
          · exact .inr (.inl h)
          · exact .inl h
          · exact .inr (.inr h)
theorem belowS_go (d : Bs) : ∀ (l : List DE) (out : List Bs), (∀ e ∈ l, under e.1 d = true → name ((parts e.1).getD (parts d).length []) = true) → RiseN out → (∀ x ∈ out, name x = true) →
    RiseN (l.foldl (fun out e => if under e.1 d = true then put18 ((parts e.1).getD (parts d).length []) false out else out) out) ∧
    ∀ x, x ∈ l.foldl (fun out e => if under e.1 d = true then put18 ((parts e.1).getD (parts d).length []) false out else out) out ↔ x ∈ out ∨ ∃ e ∈ l, under e.1 d = true ∧ (parts e.1).getD (parts d).length [] = x
  | [], out, _, h, _ => ⟨h, fun x => by simp⟩
  | e :: r, out, hl, h, hn => by
    rw [List.foldl_cons]
    by_cases hu : under e.1 d = true
    · rw [if_pos hu]
      have hs := hl e (List.mem_cons_self ..) hu
      obtain ⟨p1, p2⟩ := put18_rise _ hs out h hn
      obtain ⟨i1, i2⟩ := belowS_go d r _ (fun x hx => hl x (List.mem_cons_of_mem _ hx)) p1 fun x hx => by
        rcases (p2 x).1 hx with rfl | hx
        · exact hs
        · exact hn x hx
      refine ⟨i1, fun x => ?_⟩
      rw [i2 x, p2 x]
      constructor
      · rintro ((rfl | h) | ⟨y, hy, h1, h2⟩)
        · exact .inr ⟨e, List.mem_cons_self .., hu, rfl⟩
        · exact .inl h
        · exact .inr ⟨y, List.mem_cons_of_mem _ hy, h1, h2⟩
      · rintro (h | ⟨y, hy, h1, h2⟩)
        · exact .inl (.inr h)
        · rcases List.mem_cons.1 hy with rfl | hy
          · exact .inl (.inl h2.symm)
          · exact .inr ⟨y, hy, h1, h2⟩
    · rw [if_neg hu]
      obtain ⟨i1, i2⟩ := belowS_go d r out (fun x hx => hl x (List.mem_cons_of_mem _ hx)) h hn
      refine ⟨i1, fun x => ?_⟩
      rw [i2 x]
      constructor
      · rintro (h | ⟨y, hy, h1, h2⟩)
        · exact .inl h
        · exact .inr ⟨y, List.mem_cons_of_mem _ hy, h1, h2⟩
      · rintro (h | ⟨y, hy, h1, h2⟩)
        · exact .inl h
        · rcases List.mem_cons.1 hy with rfl | hy
          · exact absurd h1 hu
          · exact .inr ⟨y, hy, h1, h2⟩
theorem under_name {p d : Bs} (hp : check p = 0) (hu : under p d = true) : name ((parts p).getD (parts d).length []) = true := by
  have hc := check_parts hp
  have h4 := hc.2.2.2
  rw [← hc.1] at h4
  rw [List.getD_eq_getElem?_getD, List.getElem?_eq_getElem (under_parts hu).2.2.1, Option.getD_some]
  exact List.all_eq_true.1 h4 _ (List.getElem_mem _)
theorem belowS_rise {l : List DE} (hm : ∀ e ∈ l, check e.1 = 0) (d : Bs) : RiseN (belowS d l) ∧ ∀ x, x ∈ belowS d l ↔ ∃ e ∈ l, under e.1 d = true ∧ (parts e.1).getD (parts d).length [] = x := by
  obtain ⟨h1, h2⟩ := belowS_go d l [] (fun e he hu => under_name (hm e he) hu) List.Pairwise.nil (fun x h => by cases h)
  exact ⟨h1, fun x => (h2 x).trans (by simp)⟩
theorem rnames_mem (d : Bs) : ∀ (m : List DE) (out : List Bs) (x : Bs), x ∈ rnames d out m ↔ x ∈ out ∨ ∃ e ∈ m, under e.1 d = true ∧ (parts e.1).getD (parts d).length [] = x
  | [], out, x => by rw [rnames]; simp
  | e :: r, out, x => by
    rw [rnames]
    by_cases hu : under e.1 d = true
    · rw [if_pos hu]
      show x ∈ rnames d (if out.getLast? = some ((parts e.1).getD (parts d).length []) then out else out ++ [(parts e.1).getD (parts d).length []]) r ↔ _
      obtain ⟨s, hs⟩ : ∃ s, s = (parts e.1).getD (parts d).length [] := ⟨_, rfl⟩
      rw [← hs, rnames_mem d r _ x]
      have hin : x ∈ (if out.getLast? = some s then out else out ++ [s]) ↔ x ∈ out ∨ x = s := by
        split
        · rename_i h
          constructor
          · exact .inl
          · rintro (h2 | rfl)
            · exact h2
            · exact List.mem_of_getLast? h
        · simp
      rw [hin]
      constructor
      · rintro ((h | h) | ⟨y, hy, h1, h2⟩)
        · exact .inl h
        · exact .inr ⟨e, List.mem_cons_self .., hu, by rw [← hs, h]⟩
        · exact .inr ⟨y, List.mem_cons_of_mem _ hy, h1, h2⟩
      · rintro (h | ⟨y, hy, h1, h2⟩)
        · exact .inl (.inl h)
        · rcases List.mem_cons.1 hy with rfl | hy
          · exact .inl (.inr (by rw [hs, h2]))
          · exact .inr ⟨y, hy, h1, h2⟩
    · rw [if_neg hu, rnames_mem d r out x]
      constructor
      · rintro (h | ⟨y, hy, h1, h2⟩)
        · exact .inl h
        · exact .inr ⟨y, List.mem_cons_of_mem _ hy, h1, h2⟩
      · rintro (h | ⟨y, hy, h1, h2⟩)
        · exact .inl h
        · rcases List.mem_cons.1 hy with rfl | hy
          · exact absurd h1 hu
          · exact .inr ⟨y, hy, h1, h2⟩
theorem find_dir {t : T} {d : Bs} (hd : Dir d) : findS t d = findT t (parts d) := by
  unfold findS
  rcases hd with rfl | h
  · rw [if_pos rfl, parts_empty]; rfl
  · have h1 : d ≠ [] := by rintro rfl; exact check_nil h
    have h2 : parts d ≠ [] := by rw [(check_parts h).1]; exact split_ne d
    rw [if_neg h1, if_neg h2]
theorem findT_snoc : ∀ (d : List Bs) (t : T) (n : Bs), findT t (d ++ [n]) = (findT t d).bind fun s => kid s.kids n
  | [], t, n => by
    show (kid t.kids n).bind (fun s => findT s []) = kid t.kids n
    cases kid t.kids n <;> rfl
  | m :: d, t, n => by
    show (kid t.kids m).bind (fun s => findT s (d ++ [n])) = ((kid t.kids m).bind fun s => findT s d).bind _
    cases h : kid t.kids m with
    | none => rfl
    | some s => exact findT_snoc d s n
theorem find_down {t : T} {d n : Bs} (hd : Dir d) (h1 : Dir (down d n)) (h2 : parts (down d n) = parts d ++ [n]) : findS t (down d n) = (findS t d).bind fun s => kid s.kids n := by
  rw [find_dir h1, find_dir hd, h2, findT_snoc]
/-- What the document has at a directory, by the tree's node. -/
theorem names_node {o : Option T} {m : List DE} (P : Both o m) {d : Bs} (hd : Dir d) : rnames d [] m = (nodeS (o.getD .nil) d).2.map (·.1) ∧ rget m d = (nodeS (o.getD .nil) d).1 := by
  obtain ⟨h1, h2⟩ := at_both P.eq P.go P.gm d hd
  unfold nodeS
  rw [find_dir hd]
  cases hf : findT (o.getD .nil) (parts d) with
  | none =>
    rw [hf] at h1
    refine ⟨?_, ?_⟩
    · rw [names_subs d hd m P.gm.1 [], h1]; rfl
    · rw [get_subs m P.gm.1 d hd, h1]; rfl
  | some s =>
    obtain ⟨_, k2, k3⟩ := h2 s hf
    refine ⟨?_, ?_⟩
    · rw [k3, nodeT_kids, List.map_map]; rfl
    · rw [k2, nodeT_leaf]
theorem node_rise {o : Option T} (h : GoodO o) (d : Bs) (hd : Dir d) : RiseN ((nodeS (o.getD .nil) d).2.map (·.1)) := by
  unfold nodeS
  rw [find_dir hd]
  cases hf : findT (o.getD .nil) (parts d) with
  | none => exact List.Pairwise.nil
  | some s =>
    have hok := (findT_subs (parts d) (o.getD .nil) (getD_ok h.1)).2 s hf
    show RiseN ((nodeT s).2.map (·.1))
    rw [nodeT_kids, List.map_map]
    exact (ok_rise hok).1
def KOf (x y : List Kid) (k : Two) : Prop :=
  ((k.2.1 = true ∧ (k.1, k.2.2.2.1) ∈ x) ∨ (k.2.1 = false ∧ k.1 ∉ x.map (·.1))) ∧ ((k.2.2.1 = true ∧ (k.1, k.2.2.2.2) ∈ y) ∨ (k.2.2.1 = false ∧ k.1 ∉ y.map (·.1))) ∧ (k.1 ∈ x.map (·.1) ∨ k.1 ∈ y.map (·.1))
theorem kof_x {a : Kid} {x y : List Kid} {k : Two} (h : KOf x y k) (hl : Op.bytesLess a.1 k.1 = true) : KOf (a :: x) y k := by
  obtain ⟨h1, h2, h3⟩ := h
  refine ⟨?_, h2, h3.imp (fun h => by rw [List.map_cons]; exact List.mem_cons_of_mem _ h) id⟩
  rcases h1 with ⟨h, h4⟩ | ⟨h, h4⟩
  · exact .inl ⟨h, List.mem_cons_of_mem _ h4⟩
  · refine .inr ⟨h, fun h5 => ?_⟩
    rw [List.map_cons] at h5
    rcases List.mem_cons.1 h5 with h6 | h6
    · rw [h6, less_irr] at hl; cases hl
    · exact h4 h6
theorem kof_y {a : Kid} {x y : List Kid} {k : Two} (h : KOf x y k) (hl : Op.bytesLess a.1 k.1 = true) : KOf x (a :: y) k := by
  obtain ⟨h1, h2, h3⟩ := h
  refine ⟨h1, ?_, h3.imp id (fun h => by rw [List.map_cons]; exact List.mem_cons_of_mem _ h)⟩
  rcases h2 with ⟨h, h4⟩ | ⟨h, h4⟩
  · exact .inl ⟨h, List.mem_cons_of_mem _ h4⟩
  · refine .inr ⟨h, fun h5 => ?_⟩
    rw [List.map_cons] at h5
    rcases List.mem_cons.1 h5 with h6 | h6
    · rw [h6, less_irr] at hl; cases hl
    · exact h4 h6
theorem less_not {a : Bs} {l : List Bs} (h : ∀ n ∈ l, Op.bytesLess a n = true) : a ∉ l := fun hm => by
  have := h a hm
  rw [less_irr] at this
  cases this
/-- Two rows of kids, merged. -/
theorem kids2_of : ∀ (x y : List Kid), RiseN (x.map (·.1)) → RiseN (y.map (·.1)) →
    RiseN ((kids2 x y).map (·.1)) ∧ (∀ k ∈ kids2 x y, KOf x y k) ∧ ∀ n, (n ∈ x.map (·.1) ∨ n ∈ y.map (·.1)) → n ∈ (kids2 x y).map (·.1)
  | [], [], _, _ => by
    rw [kids2]
    exact ⟨List.Pairwise.nil, (fun k h => by cases h), fun n h => by rcases h with h | h <;> cases h⟩
  | a :: r, [], hx, hy => by
    obtain ⟨x1, x2⟩ := List.pairwise_cons.1 hx
    obtain ⟨i1, i2, i3⟩ := kids2_of r [] x2 hy
    have up : ∀ k ∈ kids2 r [], Op.bytesLess a.1 k.1 = true := fun k hk => by
      rcases (i2 k hk).2.2 with h | h
      · exact x1 _ h
      · cases h
    rw [kids2]
    refine ⟨?_, fun k hk => ?_, fun n h => ?_⟩
    · rw [List.map_cons]
      refine List.pairwise_cons.2 ⟨fun n hn => ?_, i1⟩
      obtain ⟨k, hk, rfl⟩ := List.mem_map.1 hn
      exact up k hk
    · rcases List.mem_cons.1 hk with rfl | hk
      · exact ⟨.inl ⟨rfl, List.mem_cons_self ..⟩, .inr ⟨rfl, by simp⟩, .inl (by simp)⟩
      · exact kof_x (i2 k hk) (up k hk)
    · rw [List.map_cons]
      rcases h with h | h
      · rw [List.map_cons] at h
        rcases List.mem_cons.1 h with rfl | h
        · exact List.mem_cons_self ..
        · exact List.mem_cons_of_mem _ (i3 n (.inl h))
      · cases h
  | [], b :: s, hx, hy => by
    obtain ⟨y1, y2⟩ := List.pairwise_cons.1 hy
    obtain ⟨i1, i2, i3⟩ := kids2_of [] s hx y2
    have up : ∀ k ∈ kids2 [] s, Op.bytesLess b.1 k.1 = true := fun k hk => by
      rcases (i2 k hk).2.2 with h | h
      · cases h
      · exact y1 _ h
    rw [kids2]
    refine ⟨?_, fun k hk => ?_, fun n h => ?_⟩
    · rw [List.map_cons]
      refine List.pairwise_cons.2 ⟨fun n hn => ?_, i1⟩
      obtain ⟨k, hk, rfl⟩ := List.mem_map.1 hn
      exact up k hk
    · rcases List.mem_cons.1 hk with rfl | hk
      · exact ⟨.inr ⟨rfl, by simp⟩, .inl ⟨rfl, List.mem_cons_self ..⟩, .inr (by simp)⟩
      · exact kof_y (i2 k hk) (up k hk)
    · rw [List.map_cons]
      rcases h with h | h
      · cases h
      · rw [List.map_cons] at h
        rcases List.mem_cons.1 h with rfl | h
        · exact List.mem_cons_self ..
        · exact List.mem_cons_of_mem _ (i3 n (.inr h))
  | a :: r, b :: s, hx, hy => by
    obtain ⟨x1, x2⟩ := List.pairwise_cons.1 hx
    obtain ⟨y1, y2⟩ := List.pairwise_cons.1 hy
    rw [kids2]
    by_cases q1 : Op.bytesLess a.1 b.1 = true
    · rw [if_pos q1]
      obtain ⟨i1, i2, i3⟩ := kids2_of r (b :: s) x2 hy
      have hb : ∀ n ∈ (b :: s).map (·.1), Op.bytesLess a.1 n = true := fun n hn => by
        rw [List.map_cons] at hn
        rcases List.mem_cons.1 hn with rfl | hn
        · exact q1
        · exact less_trans q1 (y1 n hn)
      have up : ∀ k ∈ kids2 r (b :: s), Op.bytesLess a.1 k.1 = true := fun k hk => by
        rcases (i2 k hk).2.2 with h | h
        · exact x1 _ h
        · exact hb _ h
      refine ⟨?_, fun k hk => ?_, fun n h => ?_⟩
      · rw [List.map_cons]
        refine List.pairwise_cons.2 ⟨fun n hn => ?_, i1⟩
        obtain ⟨k, hk, rfl⟩ := List.mem_map.1 hn
        exact up k hk
      · rcases List.mem_cons.1 hk with rfl | hk
        · exact ⟨.inl ⟨rfl, List.mem_cons_self ..⟩, .inr ⟨rfl, less_not hb⟩, .inl (by simp)⟩
        · exact kof_x (i2 k hk) (up k hk)
      · rw [List.map_cons]
        rcases h with h | h
        · rw [List.map_cons] at h
          rcases List.mem_cons.1 h with rfl | h
          · exact List.mem_cons_self ..
          · exact List.mem_cons_of_mem _ (i3 n (.inl h))
        · exact List.mem_cons_of_mem _ (i3 n (.inr h))
    · rw [if_neg q1]
      by_cases q2 : Op.bytesLess b.1 a.1 = true
      · rw [if_pos q2]
        obtain ⟨i1, i2, i3⟩ := kids2_of (a :: r) s hx y2
        have hb : ∀ n ∈ (a :: r).map (·.1), Op.bytesLess b.1 n = true := fun n hn => by
          rw [List.map_cons] at hn
          rcases List.mem_cons.1 hn with rfl | hn
          · exact q2
          · exact less_trans q2 (x1 n hn)
        have up : ∀ k ∈ kids2 (a :: r) s, Op.bytesLess b.1 k.1 = true := fun k hk => by
          rcases (i2 k hk).2.2 with h | h
          · exact hb _ h
          · exact y1 _ h
        refine ⟨?_, fun k hk => ?_, fun n h => ?_⟩
        · rw [List.map_cons]
          refine List.pairwise_cons.2 ⟨fun n hn => ?_, i1⟩
          obtain ⟨k, hk, rfl⟩ := List.mem_map.1 hn
          exact up k hk
        · rcases List.mem_cons.1 hk with rfl | hk
          · exact ⟨.inr ⟨rfl, less_not hb⟩, .inl ⟨rfl, List.mem_cons_self ..⟩, .inr (by simp)⟩
          · exact kof_y (i2 k hk) (up k hk)
        · rw [List.map_cons]
          rcases h with h | h
          · exact List.mem_cons_of_mem _ (i3 n (.inl h))
          · rw [List.map_cons] at h
            rcases List.mem_cons.1 h with rfl | h
            · exact List.mem_cons_self ..
            · exact List.mem_cons_of_mem _ (i3 n (.inr h))
      · rw [if_neg q2]
        have e : a.1 = b.1 := Decidable.byContradiction fun h => q2 (less_other h q1)
        obtain ⟨i1, i2, i3⟩ := kids2_of r s x2 y2
        have up : ∀ k ∈ kids2 r s, Op.bytesLess a.1 k.1 = true := fun k hk => by
          rcases (i2 k hk).2.2 with h | h
          · exact x1 _ h
          · rw [e]; exact y1 _ h
        refine ⟨?_, fun k hk => ?_, fun n h => ?_⟩
        · rw [List.map_cons]
          refine List.pairwise_cons.2 ⟨fun n hn => ?_, i1⟩
          obtain ⟨k, hk, rfl⟩ := List.mem_map.1 hn
          exact up k hk
        · rcases List.mem_cons.1 hk with rfl | hk
          · exact ⟨.inl ⟨rfl, List.mem_cons_self ..⟩, .inl ⟨rfl, by rw [e]; exact List.mem_cons_self ..⟩, .inl (by simp)⟩
          · exact kof_y (kof_x (i2 k hk) (up k hk)) (by rw [← e]; exact up k hk)
        · rw [List.map_cons]
          rcases h with h | h
          · rw [List.map_cons] at h
            rcases List.mem_cons.1 h with rfl | h
            · exact List.mem_cons_self ..
            · exact List.mem_cons_of_mem _ (i3 n (.inl h))
          · rw [List.map_cons] at h
            rcases List.mem_cons.1 h with rfl | h
            · rw [← e]; exact List.mem_cons_self ..
            · exact List.mem_cons_of_mem _ (i3 n (.inr h))
termination_by x y => x.length + y.length
theorem kid_no : ∀ (k : List (Bs × T)) (n : Bs), n ∉ k.map (·.1) → kid k n = none
  | [], _, _ => rfl
  | (m, s) :: r, n, h => by
    rw [List.map_cons] at h
    rw [kid, if_neg (fun e => h (by rw [← e]; exact List.mem_cons_self ..))]
    exact kid_no r n fun h2 => h (List.mem_cons_of_mem _ h2)
/-- A kid in a node, and what stands there. -/
theorem kid_find {o : Option T} (h : GoodO o) {d n : Bs} (hd : Dir d) (h1 : Dir (down d n)) (h2 : parts (down d n) = parts d ++ [n]) :
    (∀ x, (n, x) ∈ (nodeS (o.getD .nil) d).2 → ∃ u, findS (o.getD .nil) (down d n) = some u ∧ nsum (nodeT u) = x) ∧ (n ∉ (nodeS (o.getD .nil) d).2.map (·.1) → findS (o.getD .nil) (down d n) = none) := by
  rw [find_down hd h1 h2]
  unfold nodeS
  cases hf : findS (o.getD .nil) d with
  | none => exact ⟨(fun x h => by cases h), fun _ => rfl⟩
  | some s =>
    have hok := (findT_subs (parts d) (o.getD .nil) (getD_ok h.1)).2 s (by rw [← find_dir hd]; exact hf)
    show (∀ x, (n, x) ∈ (nodeT s).2 → ∃ u, kid s.kids n = some u ∧ nsum (nodeT u) = x) ∧ (n ∉ (nodeT s).2.map (·.1) → kid s.kids n = none)
    rw [nodeT_kids]
    refine ⟨fun x hx => ?_, fun hn => kid_no s.kids n (by rw [List.map_map] at hn; exact hn)⟩
    obtain ⟨⟨m, u⟩, hu, e⟩ := List.mem_map.1 hx
    obtain ⟨i, hi, e2⟩ := List.mem_iff_getElem.1 hu
    have hk := kid_at s.kids i hi (ok_rise hok).1
    rw [e2] at hk
    have e3 : m = n := congrArg Prod.fst e
    have e4 : nsum (nodeT u) = x := congrArg Prod.snd e
    rw [← e3]
    exact ⟨u, hk, e4⟩
theorem differ_both {oa ob : Option T} (ha : GoodO oa) (hb : GoodO ob) {d : Bs} (hd : Dir d) {k : Two} (h1 : Dir (down d k.1)) (h2 : parts (down d k.1) = parts d ++ [k.1]) (hk : KOf (nodeS (oa.getD .nil) d).2 (nodeS (ob.getD .nil) d).2 k) : diffS oa ob (down d k.1) = differ2 k := by
  obtain ⟨a1, a2⟩ := kid_find ha hd h1 h2
  obtain ⟨b1, b2⟩ := kid_find hb hd h1 h2
  obtain ⟨n, i, t, x, y⟩ := k
  obtain ⟨k1, k2, k3⟩ := hk
  unfold diffS differ2
  rcases k1 with ⟨e1, k1⟩ | ⟨e1, k1⟩
  · obtain ⟨u, hu, hx⟩ := a1 _ k1
    rcases k2 with ⟨e2, k2⟩ | ⟨e2, k2⟩
    · obtain ⟨v, hv, hy⟩ := b1 _ k2
      simp only at e1 e2 hx hy hu hv ⊢
      rw [hu, hv]
      simp only [hx, hy, e1, e2]
      by_cases h : x = y <;> simp [h]
    · have hv := b2 k2
      simp only at e1 e2 hu hv ⊢
      rw [hu, hv, e1, e2]
      rfl
  · have hu := a2 k1
    rcases k2 with ⟨e2, k2⟩ | ⟨e2, k2⟩
    · obtain ⟨v, hv, hy⟩ := b1 _ k2
      simp only at e1 e2 hu hv ⊢
      rw [hu, hv, e1, e2]
      rfl
    · rcases k3 with h | h
      · exact absurd h k1
      · exact absurd h k2
/-- The directories that are opened, by the trees' nodes. -/
def openT (a b : T) : Nat → Bs → List Bs
  | 0, _ => []
  | f + 1, d => d :: ((kids2 (nodeS a d).2 (nodeS b d).2).filter differ2).flatMap fun k => openT a b f (down d k.1)
theorem flat_filter {α β : Type} (p : α → Bool) (g h : α → List β) : ∀ (L : List α), (∀ k ∈ L, h k = if p k = true then g k else []) → L.flatMap h = (L.filter p).flatMap g
  | [], _ => rfl
  | k :: r, hl => by
    rw [List.flatMap_cons, hl k (List.mem_cons_self ..), flat_filter p g h r fun x hx => hl x (List.mem_cons_of_mem _ hx)]
    cases hp : p k with
    | true => rw [if_pos rfl, List.filter_cons_of_pos hp, List.flatMap_cons]
    | false => rw [if_neg (by decide), List.filter_cons_of_neg (by rw [hp]; decide)]; rfl
theorem below_kids {oa ob : Option T} {ma mb : List DE} (PA : Both oa ma) (PB : Both ob mb) {d : Bs} (hd : Dir d) : belowS d (ma ++ mb) = (kids2 (nodeS (oa.getD .nil) d).2 (nodeS (ob.getD .nil) d).2).map (·.1) := by
  have hchk : ∀ e ∈ ma ++ mb, check e.1 = 0 := fun e he => (List.mem_append.1 he).elim (PA.gm.1 e) (PB.gm.1 e)
  obtain ⟨b1, b2⟩ := belowS_rise hchk d
  obtain ⟨k1, k2, k3⟩ := kids2_of _ _ (node_rise PA.go d hd) (node_rise PB.go d hd)
  refine rise_ext _ _ b1 k1 fun x => ?_
  have na := rnames_mem d ma [] x
  have nb := rnames_mem d mb [] x
  rw [(names_node PA hd).1] at na
  rw [(names_node PB hd).1] at nb
  rw [b2 x]
  constructor
  · rintro ⟨e, he, h1, h2⟩
    refine k3 x ?_
    rcases List.mem_append.1 he with h | h
    · exact .inl (na.2 (.inr ⟨e, h, h1, h2⟩))
    · exact .inr (nb.2 (.inr ⟨e, h, h1, h2⟩))
  · intro hx
    obtain ⟨k, hk, rfl⟩ := List.mem_map.1 hx
    rcases (k2 k hk).2.2 with h | h
    · rcases na.1 h with h | ⟨e, he, h1, h2⟩
      · exact absurd h (by simp)
      · exact ⟨e, List.mem_append_left _ he, h1, h2⟩
    · rcases nb.1 h with h | ⟨e, he, h1, h2⟩
      · exact absurd h (by simp)
      · exact ⟨e, List.mem_append_right _ he, h1, h2⟩
/-- A kid of two nodes: its directory, and whether they differ there. -/
theorem kid_two {oa ob : Option T} {ma mb : List DE} (PA : Both oa ma) (PB : Both ob mb) {d : Bs} (hd : Dir d) {k : Two} (hk : k ∈ kids2 (nodeS (oa.getD .nil) d).2 (nodeS (ob.getD .nil) d).2) :
    Dir (down d k.1) ∧ parts (down d k.1) = parts d ++ [k.1] ∧ (parts d).length + 1 ≤ 4 ∧ k.1.length ≤ 12 ∧ diffS oa ob (down d k.1) = differ2 k := by
  have hchk : ∀ e ∈ ma ++ mb, check e.1 = 0 := fun e he => (List.mem_append.1 he).elim (PA.gm.1 e) (PB.gm.1 e)
  have hb : k.1 ∈ belowS d (ma ++ mb) := by rw [below_kids PA PB hd]; exact List.mem_map_of_mem hk
  obtain ⟨d1, d2, d3, d4⟩ := below_down hchk hd hb
  exact ⟨d1, d2, d3, d4, differ_both PA.go PB.go hd d1 d2 ((kids2_of _ _ (node_rise PA.go d hd) (node_rise PB.go d hd)).2.1 k hk)⟩
theorem open_both {oa ob : Option T} {ma mb : List DE} (PA : Both oa ma) (PB : Both ob mb) : ∀ (f : Nat) (d : Bs), Dir d → openS oa ob (ma ++ mb) f d = if diffS oa ob d = true then openT (oa.getD .nil) (ob.getD .nil) f d else []
  | 0, d, _ => by rw [openS, openT]; split <;> rfl
  | f + 1, d, hd => by
    rw [openS, openT]
    by_cases h : diffS oa ob d = true
    · rw [if_pos h, if_pos h, below_kids PA PB hd, List.flatMap_map]
      congr 1
      refine flat_filter _ _ _ _ fun k hk => ?_
      obtain ⟨d1, _, _, _, d5⟩ := kid_two PA PB hd hk
      rw [open_both PA PB f (down d k.1) d1, d5]
    · rw [if_neg h, if_neg h]
theorem diff_root (oa ob : Option T) : diffS oa ob [] = decide (nsum (nodeT (oa.getD .nil)) ≠ nsum (nodeT (ob.getD .nil))) := by
  unfold diffS findS
  rw [if_pos rfl, if_pos rfl]
theorem openT_dir {oa ob : Option T} {ma mb : List DE} (PA : Both oa ma) (PB : Both ob mb) : ∀ (f : Nat) (d : Bs), Dir d → ∀ e ∈ openT (oa.getD .nil) (ob.getD .nil) f d, Dir e
  | 0, d, _, e, h => by cases h
  | f + 1, d, hd, e, h => by
    rw [openT] at h
    rcases List.mem_cons.1 h with rfl | h
    · exact hd
    · obtain ⟨k, hk, h2⟩ := List.mem_flatMap.1 h
      obtain ⟨d1, _⟩ := kid_two PA PB hd (List.mem_filter.1 hk).1
      exact openT_dir PA PB f _ d1 e h2
/-- Do leaves differ at a directory, by the trees' nodes? -/
def leafdiff (a b : T) (d : Bs) : Bool := !decide ((nodeS a d).1 = (nodeS b d).1)
theorem leaf_root {o : Option T} {m : List DE} (P : Both o m) : (nodeS (o.getD .nil) []).1 = [] := by
  rw [← (names_node P (.inl rfl)).2]
  exact rget_bad P.gm.1 check_nil
theorem keep_both {oa ob : Option T} {ma mb : List DE} (PA : Both oa ma) (PB : Both ob mb) {d : Bs} (hd : Dir d) : dkeep ma mb d = leafdiff (oa.getD .nil) (ob.getD .nil) d := by
  unfold dkeep leafdiff
  rw [(names_node PA hd).2, (names_node PB hd).2]
  by_cases h : d = []
  · subst h
    rw [leaf_root PA, leaf_root PB]
    rfl
  · rw [decide_eq_true h, Bool.true_and]
/-- What the program tells of two trees. -/
def openedT (a b : T) : List Bs := if nsum (nodeT a) = nsum (nodeT b) then [] else openT a b 5 []
theorem opened_both {oa ob : Option T} {ma mb : List DE} (PA : Both oa ma) (PB : Both ob mb) : openS oa ob (ma ++ mb) 5 [] = openedT (oa.getD .nil) (ob.getD .nil) := by
  rw [open_both PA PB 5 [] (.inl rfl), diff_root, openedT]
  by_cases h : nsum (nodeT (oa.getD .nil)) = nsum (nodeT (ob.getD .nil)) <;> simp [h]
theorem differ_all {oa ob : Option T} {ma mb : List DE} (PA : Both oa ma) (PB : Both ob mb) : (openS oa ob (ma ++ mb) 5 []).filter (dkeep ma mb) = (openedT (oa.getD .nil) (ob.getD .nil)).filter (leafdiff (oa.getD .nil) (ob.getD .nil)) := by
  rw [opened_both PA PB]
  unfold openedT
  split
  · rfl
  · refine List.filter_congr fun d hd => keep_both PA PB (openT_dir PA PB 5 [] (.inl rfl) d hd)
end Sp
end Go.Proofs.YtmlfnidckfeebaaGreatDoor
namespace Go.Proofs.YtmlfnidckfeebaaGreatDoor
namespace Sp
/-- A reader is what is left, and what is wrong. -/
abbrev R := List UInt8 × Int
theorem take_zero {l : List UInt8} (h : (take l).2.2 ≠ 0) : (take l).1 = 0 ∧ (take l).2.1 = 0 := by
  unfold take at *
  cases hc : cend l 5 0 with
  | none => simp only []; split <;> simp
  | some i =>
    rw [hc] at h
    simp only [] at h ⊢
    split
    · simp
    · split
      · simp
      · rename_i h1 h2; rw [if_neg h1, if_neg h2] at h; exact absurd rfl h
end Sp
end Go.Proofs.YtmlfnidckfeebaaGreatDoor
