/- Deltas, plain: what is opened is needed; what differs is told; the order. -/
import Derived.Test.YtmlfnidckfeebaaGreatDoorM39
import Derived.Test.YtmlfnidckfeebaaGreatDoorM40
namespace Go.Proofs.YtmlfnidckfeebaaGreatDoor
open Go.RowKit
namespace Sp
theorem kids2_same : ∀ (x y : List Kid), (∀ k ∈ kids2 x y, differ2 k = false) → x = y
  | [], [], _ => rfl
  | a :: r, [], h => by
    rw [kids2] at h
    have := h _ (List.mem_cons_self ..)
    simp [differ2] at this
  | [], b :: s, h => by
    rw [kids2] at h
    have := h _ (List.mem_cons_self ..)
    simp [differ2] at this
  | a :: r, b :: s, h => by
    rw [kids2] at h
    by_cases q1 : Op.bytesLess a.1 b.1 = true
    · rw [if_pos q1] at h
      have := h _ (List.mem_cons_self ..)
      simp [differ2] at this
    · rw [if_neg q1] at h
      by_cases q2 : Op.bytesLess b.1 a.1 = true
      · rw [if_pos q2] at h
        have := h _ (List.mem_cons_self ..)
        simp [differ2] at this
      · rw [if_neg q2] at h
        have e : a.1 = b.1 := Decidable.byContradiction fun h => q2 (less_other h q1)
        have h1 := h _ (List.mem_cons_self ..)
        have e2 : a.2 = b.2 := by simpa [differ2] using h1
        rw [kids2_same r s fun k hk => h k (List.mem_cons_of_mem _ hk)]
        congr 1
        exact Prod.ext e e2
termination_by x y => x.length + y.length
theorem node_nil {s : T} (h : nodeT s = ([], [])) : entries s = [] := by
  cases s with
  | mk leaf k =>
    have h1 : leaf = [] := by have := congrArg Prod.fst h; rw [nodeT_leaf] at this; exact this
    have h2 : k = [] := by
      have := congrArg Prod.snd h
      rw [nodeT_kids] at this
      have h3 : (T.mk leaf k).kids = [] := List.map_eq_nil_iff.1 this
      exact h3
    rw [h1, h2]; rfl
theorem find_ne {o : Option T} (ho : GoodO o) {d : Bs} (hd : Dir d) (h0 : d ≠ []) {s : T} (h : findS (o.getD .nil) d = some s) : nodeT s ≠ ([], []) := fun e => by
  rw [find_dir hd] at h
  have hp : parts d ≠ [] := by
    rcases hd with h1 | h1
    · exact absurd h1 h0
    · rw [(check_parts h1).1]; exact split_ne d
  exact findT_ne (parts d) _ s (getD_ok ho.1) hp h (node_nil e)
theorem node_same {oa ob : Option T} (ha : GoodO oa) (hb : GoodO ob) {d : Bs} (hd : Dir d) (h : nodeS (oa.getD .nil) d = nodeS (ob.getD .nil) d) : diffS oa ob d = false := by
  unfold nodeS at h
  unfold diffS
  cases ea : findS (oa.getD .nil) d with
  | none =>
    cases eb : findS (ob.getD .nil) d with
    | none => rfl
    | some t =>
      rw [ea, eb] at h
      by_cases h0 : d = []
      · rw [h0] at ea; unfold findS at ea; rw [if_pos rfl] at ea; cases ea
      · exact absurd h.symm (find_ne hb hd h0 eb)
  | some s =>
    cases eb : findS (ob.getD .nil) d with
    | none =>
      rw [ea, eb] at h
      by_cases h0 : d = []
      · rw [h0] at eb; unfold findS at eb; rw [if_pos rfl] at eb; cases eb
      · exact absurd h (find_ne ha hd h0 ea)
    | some t =>
      rw [ea, eb] at h
      have h2 : nodeT s = nodeT t := h
      show decide (nsum (nodeT s) ≠ nsum (nodeT t)) = false
      rw [h2]
      simp
/-- Where trees differ leaves differ, or something below. -/
theorem diff_why {oa ob : Option T} (ha : GoodO oa) (hb : GoodO ob) {d : Bs} (hd : Dir d) (h : diffS oa ob d = true) (hl : leafdiff (oa.getD .nil) (ob.getD .nil) d = false) : ∃ k ∈ kids2 (nodeS (oa.getD .nil) d).2 (nodeS (ob.getD .nil) d).2, differ2 k = true := by
  refine Decidable.byContradiction fun hn => ?_
  have hk := kids2_same _ _ fun k hk => by
    cases e : differ2 k with
    | false => rfl
    | true => exact absurd ⟨k, hk, e⟩ hn
  have hl2 : (nodeS (oa.getD .nil) d).1 = (nodeS (ob.getD .nil) d).1 := by
    unfold leafdiff at hl
    simpa using hl
  rw [node_same ha hb hd (Prod.ext hl2 hk)] at h
  cases h
theorem under_down {d n : Bs} (hd : Dir d) (_h1 : Dir (down d n)) (h2 : parts (down d n) = parts d ++ [n]) : under (down d n) d = true := by
  refine under_of ⟨by rw [h2]; simp, ?_, by rw [h2]; simp, by rw [h2]; simp⟩
  have := dir_parts hd
  simpa using this
theorem under_up {p d n : Bs} (hd : Dir d) (h2 : parts (down d n) = parts d ++ [n]) (h : under p (down d n) = true) : under p d = true := by
  obtain ⟨k1, _, k3, k4⟩ := under_parts h
  rw [h2] at k3 k4
  rw [List.length_append, List.length_singleton] at k3 k4
  refine under_of ⟨k1, by simpa using dir_parts hd, by omega, ?_⟩
  have := congrArg (List.take (parts d).length) k4
  rw [List.take_take, Nat.min_eq_left (by omega)] at this
  rw [this]
  simp
theorem open_kid {a b : T} {f : Nat} {d : Bs} {k : Two} (hk : k ∈ kids2 (nodeS a d).2 (nodeS b d).2) (h : differ2 k = true) {p : Bs} (hp : p ∈ openT a b f (down d k.1)) : p ∈ openT a b (f + 1) d := by
  rw [openT]
  exact List.mem_cons_of_mem _ (List.mem_flatMap.2 ⟨k, List.mem_filter.2 ⟨hk, h⟩, hp⟩)
/-- What is opened is needed. -/
theorem need_all {oa ob : Option T} {ma mb : List DE} (PA : Both oa ma) (PB : Both ob mb) : ∀ (f : Nat) (d : Bs), Dir d → diffS oa ob d = true → 5 ≤ (parts d).length + f → ∀ o ∈ openT (oa.getD .nil) (ob.getD .nil) f d,
    ∃ p ∈ openT (oa.getD .nil) (ob.getD .nil) f d, leafdiff (oa.getD .nil) (ob.getD .nil) p = true ∧ (o = p ∨ under p o = true)
  | 0, d, _, _, _, o, h => by cases h
  | f + 1, d, hd, hdf, h5, o, ho => by
    rw [openT] at ho
    rcases List.mem_cons.1 ho with rfl | ho
    · by_cases hl : leafdiff (oa.getD .nil) (ob.getD .nil) o = true
      · exact ⟨o, by rw [openT]; exact List.mem_cons_self .., hl, .inl rfl⟩
      · obtain ⟨k, hk, hd2⟩ := diff_why PA.go PB.go hd hdf (by simpa using hl)
        obtain ⟨d1, d2, d3, _, d5⟩ := kid_two PA PB hd hk
        have hf : 5 ≤ (parts (down o k.1)).length + f := by rw [d2, List.length_append, List.length_singleton]; omega
        have hf0 : f ≠ 0 := by omega
        obtain ⟨f', rfl⟩ := Nat.exists_eq_succ_of_ne_zero hf0
        obtain ⟨p, p1, p2, p3⟩ := need_all PA PB (f' + 1) (down o k.1) d1 (by rw [d5, hd2]) hf (down o k.1) (by rw [openT]; exact List.mem_cons_self ..)
        refine ⟨p, open_kid hk hd2 p1, p2, .inr ?_⟩
        rcases p3 with rfl | p3
        · exact under_down hd d1 d2
        · exact under_up hd d2 p3
    · obtain ⟨k, hk, h2⟩ := List.mem_flatMap.1 ho
      obtain ⟨hk1, hk2⟩ := List.mem_filter.1 hk
      obtain ⟨d1, d2, d3, _, d5⟩ := kid_two PA PB hd hk1
      have hf : 5 ≤ (parts (down d k.1)).length + f := by rw [d2, List.length_append, List.length_singleton]; omega
      obtain ⟨p, p1, p2, p3⟩ := need_all PA PB f (down d k.1) d1 (by rw [d5, hk2]) hf o h2
      exact ⟨p, open_kid hk1 hk2 p1, p2, p3⟩
/-- The order of what is opened. -/
theorem open_rise {oa ob : Option T} {ma mb : List DE} (PA : Both oa ma) (PB : Both ob mb) : ∀ (f : Nat) (d : Bs), Dir d → (∀ e ∈ openT (oa.getD .nil) (ob.getD .nil) f d, ∃ q, parts e = parts d ++ q) ∧ (openT (oa.getD .nil) (ob.getD .nil) f d).Pairwise fun x y => cmpP (parts x) (parts y) = -1
  | 0, d, _ => ⟨(fun e h => by cases h), List.Pairwise.nil⟩
  | f + 1, d, hd => by
    have sub : ∀ k ∈ (kids2 (nodeS (oa.getD .nil) d).2 (nodeS (ob.getD .nil) d).2).filter differ2, ∀ e ∈ openT (oa.getD .nil) (ob.getD .nil) f (down d k.1), ∃ q, parts e = parts d ++ k.1 :: q := fun k hk e he => by
      obtain ⟨d1, d2, _⟩ := kid_two PA PB hd (List.mem_filter.1 hk).1
      obtain ⟨q, hq⟩ := (open_rise PA PB f _ d1).1 e he
      exact ⟨q, by rw [hq, d2, List.append_assoc]; rfl⟩
    have kr : ((kids2 (nodeS (oa.getD .nil) d).2 (nodeS (ob.getD .nil) d).2).filter differ2).Pairwise fun x y => Op.bytesLess x.1 y.1 = true := by
      have := (kids2_of _ _ (node_rise PA.go d hd) (node_rise PB.go d hd)).1
      exact (List.pairwise_map.1 this).sublist List.filter_sublist
    have ks : ∀ k ∈ (kids2 (nodeS (oa.getD .nil) d).2 (nodeS (ob.getD .nil) d).2).filter differ2, (openT (oa.getD .nil) (ob.getD .nil) f (down d k.1)).Pairwise fun x y => cmpP (parts x) (parts y) = -1 := fun k hk =>
      (open_rise PA PB f _ (kid_two PA PB hd (List.mem_filter.1 hk).1).1).2
    rw [openT]
    obtain ⟨K, hK⟩ : ∃ K, K = (kids2 (nodeS (oa.getD .nil) d).2 (nodeS (ob.getD .nil) d).2).filter differ2 := ⟨_, rfl⟩
    rw [← hK] at sub kr ks ⊢
    have flat : (K.flatMap fun k => openT (oa.getD .nil) (ob.getD .nil) f (down d k.1)).Pairwise fun x y => cmpP (parts x) (parts y) = -1 := by
      clear hK
      induction K with
      | nil => exact List.Pairwise.nil
      | cons k r ih =>
        obtain ⟨r1, r2⟩ := List.pairwise_cons.1 kr
        rw [List.flatMap_cons]
        refine List.pairwise_append.2 ⟨ks k (List.mem_cons_self ..), by first | exact ih (fun x hx => ks x (List.mem_cons_of_mem _ hx)) r2 (fun x hx => sub x (List.mem_cons_of_mem _ hx)) | exact ih (fun x hx => sub x (List.mem_cons_of_mem _ hx)) (fun x hx => ks x (List.mem_cons_of_mem _ hx)) r2 | exact ih r2 (fun x hx => sub x (List.mem_cons_of_mem _ hx)) (fun x hx => ks x (List.mem_cons_of_mem _ hx)), fun x hx y hy => ?_⟩
        obtain ⟨q, hq⟩ := sub k (List.mem_cons_self ..) x hx
        obtain ⟨k', hk', hy2⟩ := List.mem_flatMap.1 hy
        obtain ⟨q', hq'⟩ := sub k' (List.mem_cons_of_mem _ hk') y hy2
        rw [hq, hq', cmpP_app]
        exact head_less (r1 k' hk') _ _
    refine ⟨fun e he => ?_, List.pairwise_cons.2 ⟨fun y hy => ?_, flat⟩⟩
    · rcases List.mem_cons.1 he with rfl | he
      · exact ⟨[], by simp⟩
      · obtain ⟨k, hk, h2⟩ := List.mem_flatMap.1 he
        obtain ⟨q, hq⟩ := sub k hk e h2
        exact ⟨_, hq⟩
    · obtain ⟨k, hk, h2⟩ := List.mem_flatMap.1 hy
      obtain ⟨q, hq⟩ := sub k hk y h2
      rw [hq]
      have := cmpP_app (parts d) [] (k.1 :: q)
      rw [List.append_nil] at this
      rw [this]
      rfl
/-- What differs, by the trees' nodes. -/
def differT (a b : T) : List Bs := (openedT a b).filter (leafdiff a b)
theorem differ_dir {oa ob : Option T} {ma mb : List DE} (PA : Both oa ma) (PB : Both ob mb) : ∀ p ∈ differT (oa.getD .nil) (ob.getD .nil), check p = 0 ∧ leafdiff (oa.getD .nil) (ob.getD .nil) p = true := fun p hp => by
  obtain ⟨h1, h2⟩ := List.mem_filter.1 hp
  unfold openedT at h1
  split at h1
  · cases h1
  · rcases openT_dir PA PB 5 [] (.inl rfl) p h1 with rfl | h
    · unfold leafdiff at h2
      rw [leaf_root PA, leaf_root PB] at h2
      cases h2
    · exact ⟨h, h2⟩
theorem differ_rise {oa ob : Option T} {ma mb : List DE} (PA : Both oa ma) (PB : Both ob mb) : (differT (oa.getD .nil) (ob.getD .nil)).Pairwise fun x y => compare x y = -1 := by
  have h0 : (differT (oa.getD .nil) (ob.getD .nil)).Pairwise fun x y => cmpP (parts x) (parts y) = -1 := by
    unfold differT openedT
    split
    · exact List.Pairwise.nil
    · exact (open_rise PA PB 5 [] (.inl rfl)).2.sublist List.filter_sublist
  refine h0.imp_of_mem fun {x y} hx hy h => ?_
  have h1 := (check_parts (differ_dir PA PB x hx).1).1
  have h2 := (check_parts (differ_dir PA PB y hy).1).1
  unfold compare
  rw [← h1, ← h2]
  exact h
mutual
theorem texts_sub : ∀ (d : List Bs) (t s : T), findT t d = some s → ∀ x ∈ textsT s, x ∈ textsT t
  | [], t, s, h, x, hx => by cases h; exact hx
  | n :: d, .mk leaf k, s, h, x, hx => by
    change (kid k n).bind (fun u => findT u d) = some s at h
    cases hk : kid k n with
    | none => rw [hk] at h; cases h
    | some u =>
      rw [hk] at h
      have h2 := texts_sub d u s h x hx
      rw [textsT]
      exact List.mem_cons_of_mem _ (texts_kid k n u hk x h2)
theorem texts_kid : ∀ (k : List (Bs × T)) (n : Bs) (u : T), kid k n = some u → ∀ x ∈ textsT u, x ∈ textsL k
  | [], _, _, h, _, _ => by cases h
  | (m, s) :: r, n, u, h, x, hx => by
    rw [kid] at h
    rw [textsL]
    split at h
    · cases h; exact List.mem_append_left _ hx
    · exact List.mem_append_right _ (texts_kid r n u h x hx)
end
theorem dir_next {p d : Bs} (hp : check p = 0) (hd : Dir d) (hu : under p d = true) : ∃ n, Dir (down d n) ∧ parts (down d n) = parts d ++ [n] ∧ (p = down d n ∨ under p (down d n) = true) := by
  have eu := under_parts hu
  have hc := check_parts hp
  obtain ⟨n, hn⟩ : ∃ n, n = (parts p).getD (parts d).length [] := ⟨_, rfl⟩
  have hsp : split p = (parts d ++ [n]) ++ (parts p).drop ((parts d).length + 1) := by
    rw [← hc.1]
    have := split_at (parts p) _ [] eu.2.2.1
    rw [eu.2.2.2, ← hn] at this
    rw [List.append_assoc]
    exact this
  have hq := check_prefix hp hsp (by simp)
  rw [← down_is hd n] at hq
  refine ⟨n, .inr hq.1, hq.2, ?_⟩
  by_cases hr : (parts p).drop ((parts d).length + 1) = []
  · left
    rw [hr, List.append_nil, ← hq.2, (check_parts hq.1).1] at hsp
    exact split_inj hsp
  · right
    refine under_of ⟨eu.1, .inr (by rw [hq.2]; simp), ?_, ?_⟩
    · rw [hq.2, List.length_append, List.length_singleton]
      have := List.length_pos_iff.2 hr
      rw [List.length_drop] at this
      omega
    · rw [hc.1, hsp, hq.2]
      exact List.take_left' rfl
theorem find_ok {o : Option T} {m : List DE} (P : Both o m) {d : Bs} (hd : Dir d) {s : T} (h : findS (o.getD .nil) d = some s) : Ok s ∧ sizeT s ≤ 128 ∧ ∀ x ∈ textsT s, x ∈ textsT (o.getD .nil) := by
  rw [find_dir hd] at h
  refine ⟨(findT_subs (parts d) (o.getD .nil) (getD_ok P.go.1)).2 s h, ?_, texts_sub _ _ _ h⟩
  have h1 := findT_small _ _ _ h
  have h2 : sizeT (o.getD .nil) ≤ 128 := by rw [getD_size]; exact P.go.2
  omega
/-- A path whose leaves differ is told, if no two unlike nodes have one digest. -/
theorem all_told {oa ob : Option T} {ma mb : List DE} (PA : Both oa ma) (PB : Both ob mb) (hc : ∀ x ∈ textsT (oa.getD .nil), ∀ y ∈ textsT (ob.getD .nil), sha x = sha y → x = y) (p : Bs) (hp : check p = 0) (hl : leafdiff (oa.getD .nil) (ob.getD .nil) p = true) :
    ∀ (f : Nat) (d : Bs), Dir d → diffS oa ob d = true → 5 ≤ (parts d).length + f → (p = d ∨ under p d = true) → p ∈ openT (oa.getD .nil) (ob.getD .nil) f d
  | 0, d, hd, _, h5, _ => by have := parts_len d; omega
  | f + 1, d, hd, hdf, h5, hpd => by
    rcases hpd with rfl | hu
    · rw [openT]; exact List.mem_cons_self ..
    · obtain ⟨n, n1, n2, n3⟩ := dir_next hp hd hu
      have hdn : diffS oa ob (down d n) = true := by
        refine Decidable.byContradiction fun hno => ?_
        have hpq : ∃ q, parts p = parts (down d n) ++ q := by
          rcases n3 with rfl | h
          · exact ⟨[], by simp⟩
          · have e := (under_parts h).2.2.2
            refine ⟨(parts p).drop (parts (down d n)).length, ?_⟩
            conv => lhs; rw [← List.take_append_drop (parts (down d n)).length (parts p), e]
        obtain ⟨q, hq⟩ := hpq
        have hfp : ∀ t : T, findS t p = (findS t (down d n)).bind fun s => findT s q := fun t => by
          rw [find_dir (.inr hp), find_dir n1, hq]
          generalize parts (down d n) = D
          clear hq
          induction D generalizing t with
          | nil => rfl
          | cons m D ih =>
            show (kid t.kids m).bind (fun u => findT u (D ++ q)) = ((kid t.kids m).bind fun u => findT u D).bind _
            cases kid t.kids m with
            | none => rfl
            | some u => exact ih u
        have heq : nodeS (oa.getD .nil) p = nodeS (ob.getD .nil) p := by
          unfold nodeS
          rw [hfp, hfp]
          unfold diffS at hno
          cases ea : findS (oa.getD .nil) (down d n) with
          | none =>
            cases eb : findS (ob.getD .nil) (down d n) with
            | none => rfl
            | some t => rw [ea, eb] at hno; exact absurd rfl hno
          | some s =>
            cases eb : findS (ob.getD .nil) (down d n) with
            | none => rw [ea, eb] at hno; exact absurd rfl hno
            | some t =>
              rw [ea, eb] at hno
              have hs : nsum (nodeT s) = nsum (nodeT t) := by simpa using hno
              obtain ⟨s1, s2, s3⟩ := find_ok PA n1 ea
              obtain ⟨t1, t2, t3⟩ := find_ok PB n1 eb
              have := tree_eq s t s1 t1 s2 t2 (fun x hx y hy => hc x (s3 x hx) y (t3 y hy)) hs
              rw [this]
        unfold leafdiff at hl
        rw [heq] at hl
        simp at hl
      have hb : n ∈ belowS d (ma ++ mb) := by
        have hchk : ∀ e ∈ ma ++ mb, check e.1 = 0 := fun e he => (List.mem_append.1 he).elim (PA.gm.1 e) (PB.gm.1 e)
        rw [below_kids PA PB hd]
        obtain ⟨k1, k2, k3⟩ := kids2_of _ _ (node_rise PA.go d hd) (node_rise PB.go d hd)
        refine k3 n ?_
        by_cases h1 : n ∈ (nodeS (oa.getD .nil) d).2.map (·.1)
        · exact .inl h1
        · refine .inr (Decidable.byContradiction fun h2 => ?_)
          have e1 := (kid_find PA.go hd n1 n2).2 h1
          have e2 := (kid_find PB.go hd n1 n2).2 h2
          unfold diffS at hdn
          rw [e1, e2] at hdn
          cases hdn
      rw [below_kids PA PB hd] at hb
      obtain ⟨k, hk, rfl⟩ := List.mem_map.1 hb
      obtain ⟨d1, d2, d3, _, d5⟩ := kid_two PA PB hd hk
      refine open_kid hk (by rw [← d5]; exact hdn) (all_told PA PB hc p hp hl f _ d1 hdn ?_ n3)
      rw [d2, List.length_append, List.length_singleton]
      omega
/-- All paths that differ are told. -/
theorem differ_mem {oa ob : Option T} {ma mb : List DE} (PA : Both oa ma) (PB : Both ob mb) (hc : ∀ x ∈ textsT (oa.getD .nil), ∀ y ∈ textsT (ob.getD .nil), sha x = sha y → x = y) (p : Bs) :
    p ∈ differT (oa.getD .nil) (ob.getD .nil) ↔ check p = 0 ∧ rget ma p ≠ rget mb p := by
  have hk : ∀ (hp : check p = 0), leafdiff (oa.getD .nil) (ob.getD .nil) p = true ↔ rget ma p ≠ rget mb p := fun hp => by
    unfold leafdiff
    rw [(names_node PA (.inr hp)).2, (names_node PB (.inr hp)).2]
    simp
  constructor
  · intro h
    obtain ⟨h1, h2⟩ := differ_dir PA PB p h
    exact ⟨h1, (hk h1).1 h2⟩
  · rintro ⟨hp, h⟩
    have hl := (hk hp).2 h
    have hroot : nsum (nodeT (oa.getD .nil)) ≠ nsum (nodeT (ob.getD .nil)) := fun e => by
      have h1 : sizeT (oa.getD .nil) ≤ 128 := by rw [getD_size]; exact PA.go.2
      have h2 : sizeT (ob.getD .nil) ≤ 128 := by rw [getD_size]; exact PB.go.2
      have := tree_eq _ _ (getD_ok PA.go.1) (getD_ok PB.go.1) h1 h2 hc e
      unfold leafdiff at hl
      rw [this] at hl
      simp at hl
    refine List.mem_filter.2 ⟨?_, hl⟩
    unfold openedT
    rw [if_neg hroot]
    refine all_told PA PB hc p hp hl 5 [] (.inl rfl) ?_ (by rw [parts_empty]; decide) (.inr (under_root hp))
    rw [diff_root]
    simpa using hroot
end Sp
end Go.Proofs.YtmlfnidckfeebaaGreatDoor
