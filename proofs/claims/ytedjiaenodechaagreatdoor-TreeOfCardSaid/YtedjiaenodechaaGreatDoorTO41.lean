/- The tree of some entries and the document's: plain. A directory below a directory, in the document's words: plain. A law for a region that draws its order: first operations that tell one value in every world of a kind T, and may come late; then a forced sequence, the first so many of which stay in T. -/
import Derived.Test.YtedjiaenodechaaGreatDoorTO40
import Derived.Test.YtedjiaenodechaaGreatDoorTO28
namespace Go.Proofs.YtedjiaenodechaaGreatDoor
open Go.RowKit
namespace Sp
theorem toP_len (m : List DE) : (toP m).length = m.length := List.length_map ..
theorem riseO {o : Option T} (h : ∀ t, o = some t → Ok t) : RiseE (entriesO o) := by
  cases o with
  | none => exact List.Pairwise.nil
  | some t => exact entries_rise t (h t rfl)
/-- What a leaf at a path comes to, in the tree and in the document's list. -/
theorem set_both {o : Option T} {m : List DE} (he : toP m = entriesO o) (ho : GoodO o) (p : Bs) (l : List Ver) :
    (rsetS m p l).2 = setCode o p l ∧ (setCode o p l = 0 → toP (rsetS m p l).1 = entriesO (withO o (split p) l)) := by
  have e1 : toP (rset m p l) = entriesO (withO o (split p) l) := by
    rw [rgo_setE p l m (by rw [he]; exact riseO ho.1), he, with_entries _ _ _ ho.1]
  have e2 : (rset m p l).length = (entriesO (withO o (split p) l)).length := by rw [← e1, toP_len]
  by_cases h1 : check p = 0
  · by_cases h2 : leaf l = 0
    · by_cases h3 : 128 < (entriesO (withO o (split p) l)).length
      · have a1 : rsetS m p l = ([], 4) := by unfold rsetS; rw [if_neg (by simpa using h1), if_neg (by simpa using h2), if_pos (by rw [e2]; exact h3)]
        have a2 : setCode o p l = 4 := by unfold setCode; rw [if_neg (by simpa using h1), if_neg (by simpa using h2), if_pos h3]
        rw [a1, a2]; exact ⟨rfl, fun h => absurd h (by decide)⟩
      · have a1 : rsetS m p l = (rset m p l, 0) := by unfold rsetS; rw [if_neg (by simpa using h1), if_neg (by simpa using h2), if_neg (by rw [e2]; exact h3)]
        have a2 : setCode o p l = 0 := by unfold setCode; rw [if_neg (by simpa using h1), if_neg (by simpa using h2), if_neg h3]
        rw [a1, a2]; exact ⟨rfl, fun _ => e1⟩
    · have a1 : rsetS m p l = ([], leaf l) := by unfold rsetS; rw [if_neg (by simpa using h1), if_pos h2]
      have a2 : setCode o p l = leaf l := by unfold setCode; rw [if_neg (by simpa using h1), if_pos h2]
      rw [a1, a2]; exact ⟨rfl, fun h => absurd h h2⟩
  · have a1 : rsetS m p l = ([], check p) := by unfold rsetS; rw [if_pos h1]
    have a2 : setCode o p l = check p := by unfold setCode; rw [if_pos h1]
    rw [a1, a2]; exact ⟨rfl, fun h => absurd h h1⟩
theorem of_both : ∀ (l : List DE) (o : Option T) (m : List DE), toP m = entriesO o → GoodO o → (rof m l).2 = (ofT o l).2 ∧ toP (rof m l).1 = entriesO (ofT o l).1
  | [], o, m, he, _ => ⟨rfl, he⟩
  | e :: r, o, m, he, ho => by
    obtain ⟨s1, s2⟩ := set_both he ho e.1 e.2
    rw [rof, ofT, s1]
    by_cases hc : setCode o e.1 e.2 = 0
    · rw [if_neg (by simpa using hc), if_neg (by simpa using hc)]
      exact of_both r _ _ (s2 hc) (setCode_good hc ho)
    · rw [if_pos hc, if_pos hc]; exact ⟨rfl, rfl⟩
theorem entries_getD (o : Option T) : entries (o.getD .nil) = entriesO o := by
  cases o with
  | none => rfl
  | some t => rfl
theorem check_of_parts {d : Bs} (h : parts d ≠ []) : check d = 0 := by
  have h51 : ¬ 51 < d.length := fun hh => h (by unfold parts; rw [if_pos hh])
  unfold check
  rw [if_neg h51, if_neg (fun hh => h (List.eq_nil_of_length_eq_zero hh))]
theorem rget_bad {m : List DE} (hm : Paths m) {d : Bs} (h : check d ≠ 0) : rget m d = [] := by
  induction m with
  | nil => rfl
  | cons e r ih =>
    rw [rget, if_neg (fun hh => h (by rw [← hh]; exact hm e (List.mem_cons_self ..)))]
    exact ih fun x hx => hm x (List.mem_cons_of_mem _ hx)
theorem under_bad2 {p d : Bs} (h1 : d ≠ []) (h2 : parts d = []) : under p d = false := by
  unfold under
  simp [h1, h2]
theorem rnames_bad {d : Bs} (h1 : d ≠ []) (h2 : parts d = []) : ∀ (m : List DE) (out : List Bs), rnames d out m = out
  | [], _ => rfl
  | e :: r, out => by rw [rnames, under_bad2 h1 h2]; exact rnames_bad h1 h2 r out
/-- What the document finds at a directory is what the tree has there. -/
theorem at_both {o : Option T} {m : List DE} (he : toP m = entriesO o) (ho : GoodO o) (hm : GoodM m) (d : Bs) (hd : Dir d) :
    subs (toP m) (parts d) = entriesO (findT (o.getD .nil) (parts d)) ∧ ∀ s, findT (o.getD .nil) (parts d) = some s → Ok s ∧ rget m d = s.leaf ∧ rnames d [] m = s.kids.map (·.1) := by
  have hk : Ok (o.getD .nil) := by
    cases o with
    | none => exact ⟨fun h => absurd rfl h, List.Pairwise.nil, trivial⟩
    | some t => exact ho.1 t rfl
  obtain ⟨f1, f2⟩ := findT_subs (parts d) (o.getD .nil) hk
  rw [entries_getD, ← he] at f1
  refine ⟨f1, fun s hs => ?_⟩
  rw [hs] at f1
  have hok := f2 s hs
  refine ⟨hok, ?_, ?_⟩
  · rw [get_subs m hm.1 d hd, f1]
    cases s with
    | mk leaf k => exact get0_entries leaf k
  · rw [names_subs d hd m hm.1 [], f1]
    cases s with
    | mk leaf k => exact namesE_entries leaf k hok.2.1 hok.2.2
theorem there_both {o : Option T} {m : List DE} (he : toP m = entriesO o) (ho : GoodO o) (hm : GoodM m) (d : Bs) : rthere m d = (findS (o.getD .nil) d).isSome := by
  have hk : Ok (o.getD .nil) := by
    cases o with
    | none => exact ⟨fun h => absurd rfl h, List.Pairwise.nil, trivial⟩
    | some t => exact ho.1 t rfl
  unfold rthere findS
  by_cases hd : d = []
  · simp [hd]
  · by_cases hp : parts d = []
    · have hc : check d ≠ 0 := fun h => by
        have h2 := (check_parts h).1
        rw [hp] at h2
        exact split_ne d h2.symm
      rw [rget_bad hm.1 hc, rnames_bad hd hp]
      simp [hd, hp]
    · have hdir : Dir d := .inr (check_of_parts hp)
      obtain ⟨f1, f2⟩ := at_both he ho hm d hdir
      rw [if_neg hd, if_neg hp]
      cases hf : findT (o.getD .nil) (parts d) with
      | none =>
        rw [hf] at f1
        rw [get_subs m hm.1 d hdir, names_subs d hdir m hm.1 [], f1]
        simp [hd, entriesO, get0, namesE]
      | some s =>
        obtain ⟨g1, g2, g3⟩ := f2 s hf
        have hne := findT_ne (parts d) (o.getD .nil) s hk hp hf
        rw [g2, g3]
        cases s with
        | mk leaf k =>
          by_cases hl : leaf = []
          · by_cases hkk : k = []
            · exact absurd (by rw [hl, hkk]; rfl) hne
            · simp [T.leaf, T.kids, hkk]
          · simp [T.leaf, hl]
end Sp
end Go.Proofs.YtedjiaenodechaaGreatDoor
namespace Go.Proofs.YtedjiaenodechaaGreatDoor
open Go.RowKit
namespace Sp
theorem subs_snoc : ∀ (d : List Bs) (E : List PE) (n : Bs), subs E (d ++ [n]) = sub1 (subs E d) n
  | [], _, _ => rfl
  | _ :: d, E, n => subs_snoc d (sub1 E _) n
/-- The kid of a name that stands there. -/
theorem kid_at : ∀ (k : List (Bs × T)) (i : Nat) (h : i < k.length), Rise k → kid k (k[i]).1 = some (k[i]).2
  | (m, s) :: r, 0, _, _ => by rw [kid, List.getElem_cons_zero, if_pos rfl]
  | (m, s) :: r, i + 1, h, hr => by
    obtain ⟨h1, h2⟩ := List.pairwise_cons.1 hr
    have hi : i < r.length := by simpa using h
    have hne : ¬ m = (r[i]).1 := by
      intro e
      have := h1 (r[i]).1 (List.mem_map_of_mem (List.getElem_mem hi))
      rw [← e, less_irr] at this
      cases this
    rw [List.getElem_cons_succ, kid, if_neg hne]
    exact kid_at r i hi h2
/-- No slash is in a name. -/
theorem name_slash {n : Bs} (h : name n = true) : ∀ c ∈ n, c ≠ 47 := by
  intro c hc e
  subst e
  unfold name at h
  simp only [Bool.and_eq_true] at h
  have := List.all_eq_true.1 h.2 _ hc
  exact absurd this (by decide)
theorem split_plain : ∀ (s : Bs), (∀ c ∈ s, c ≠ 47) → split s = [s]
  | [], _ => rfl
  | c :: r, h => by
    have ih := split_plain r fun x hx => h x (List.mem_cons_of_mem _ hx)
    rw [split, if_neg (h c (List.mem_cons_self ..)), ih]
theorem split_cat : ∀ (s : Bs) (r : Bs), (∀ c ∈ s, c ≠ 47) → split (s ++ 47 :: r) = s :: split r
  | [], r, _ => by rw [List.nil_append, split, if_pos rfl]
  | c :: s, r, h => by
    have ih := split_cat s r fun x hx => h x (List.mem_cons_of_mem _ hx)
    rw [List.cons_append, split, if_neg (h c (List.mem_cons_self ..)), ih]
theorem split_join : ∀ (a : List Bs), a ≠ [] → (∀ n ∈ a, ∀ c ∈ n, c ≠ 47) → split (joinP a) = a
  | [], h, _ => absurd rfl h
  | [s], _, hn => by rw [joinP]; exact split_plain s (hn s (List.mem_cons_self ..))
  | s :: b :: r, _, hn => by
    rw [joinP, split_cat s _ (hn s (List.mem_cons_self ..)), split_join (b :: r) (by simp) fun n h => hn n (List.mem_cons_of_mem _ h)]
theorem join_len : ∀ (a q : List Bs), a ≠ [] → (joinP a).length ≤ (joinP (a ++ q)).length
  | [], _, h => absurd rfl h
  | [s], [], _ => Nat.le_refl _
  | [s], b :: q, _ => by
    show s.length ≤ (joinP (s :: b :: q)).length
    rw [joinP]; simp
  | s :: b :: r, q, _ => by
    have := join_len (b :: r) q (by simp)
    rw [List.cons_append, List.cons_append, joinP, joinP]
    rw [List.cons_append] at this
    simp; omega
/-- What stands ahead in a path is a path. -/
theorem check_prefix {p : Bs} {a q : List Bs} (hp : check p = 0) (h : split p = a ++ q) (ha : a ≠ []) : check (joinP a) = 0 ∧ parts (joinP a) = a := by
  obtain ⟨_, h51, h4, hall⟩ := check_parts hp
  have hn : ∀ n ∈ a, name n = true := fun n hn => List.all_eq_true.1 hall n (by rw [h]; exact List.mem_append_left _ hn)
  have hs := split_join a ha fun n hnn => name_slash (hn n hnn)
  have hl : (joinP a).length ≤ 51 := by
    have h1 := join_len a q ha
    rw [← h, join_split] at h1
    omega
  have hpa : parts (joinP a) = a := by
    unfold parts
    rw [if_neg (by omega), hs, if_neg (by rw [h, List.length_append] at h4; omega), if_pos (List.all_eq_true.2 hn)]
  refine ⟨?_, hpa⟩
  exact check_of_parts (by rw [hpa]; exact ha)
theorem down_join : ∀ (a : List Bs) (n : Bs), joinP (a ++ [n]) = if a = [] then n else joinP a ++ 47 :: n
  | [], n => rfl
  | [s], n => rfl
  | s :: b :: r, n => by
    have ih := down_join (b :: r) n
    rw [if_neg (by simp)] at ih ⊢
    rw [List.cons_append, List.cons_append, joinP, ← List.cons_append, ih, joinP]
    simp
theorem dir_join {d : Bs} (h : Dir d) : d = joinP (parts d) := by
  rcases h with rfl | h
  · rw [parts_empty]; rfl
  · rw [(check_parts h).1, join_split]
theorem down_is {d : Bs} (h : Dir d) (n : Bs) : down d n = joinP (parts d ++ [n]) := by
  rw [down_join, ← dir_join h]
  unfold down
  rcases h with rfl | h
  · rw [if_pos rfl, if_pos parts_empty]
  · have h1 : d ≠ [] := by rintro rfl; exact check_nil h
    have h2 : parts d ≠ [] := by rw [(check_parts h).1]; exact split_ne d
    rw [if_neg h1, if_neg h2]
/-- A kid's directory, in the document's list. -/
theorem kid_dir {m : List DE} (hm : GoodM m) {d : Bs} (hd : Dir d) {s : T} (hs : Ok s) (he : subs (toP m) (parts d) = entries s) (i : Nat) (h : i < s.kids.length) :
    Dir (down d (s.kids[i]).1) ∧ parts (down d (s.kids[i]).1) = parts d ++ [(s.kids[i]).1] ∧ subs (toP m) (parts (down d (s.kids[i]).1)) = entries (s.kids[i]).2 ∧ Ok (s.kids[i]).2 := by
  cases s with
  | mk leaf k =>
    obtain ⟨_, hr, hk⟩ := hs
    change i < k.length at h
    show Dir (down d (k[i]).1) ∧ parts (down d (k[i]).1) = parts d ++ [(k[i]).1] ∧ subs (toP m) (parts (down d (k[i]).1)) = entries (k[i]).2 ∧ Ok (k[i]).2
    have hka := kid_at k i h hr
    have e1 : subs (toP m) (parts d ++ [(k[i]).1]) = entries (k[i]).2 := by
      rw [subs_snoc, he, sub1_entries _ leaf k hr, hka]; rfl
    have hne := kid_ne k _ _ hk hka
    have hok := kid_ok k _ _ hk hka
    rw [← e1] at hne
    obtain ⟨e, hmem⟩ := List.exists_mem_of_ne_nil _ hne
    rw [subs_strip] at hmem
    obtain ⟨e0, h0, h1⟩ := List.mem_filterMap.1 hmem
    obtain ⟨e00, h00, rfl⟩ := List.mem_map.1 h0
    cases hst : stripP (parts d ++ [(k[i]).1]) (split e00.1) with
    | none => rw [hst] at h1; cases h1
    | some q =>
      have hsp := (stripP_some _ _ _).1 hst
      obtain ⟨c1, c2⟩ := check_prefix (hm.1 e00 h00) hsp (by simp)
      rw [← down_is hd] at c1 c2
      exact ⟨.inr c1, c2, by rw [c2]; exact e1, hok⟩
end Sp
end Go.Proofs.YtedjiaenodechaaGreatDoor
namespace Go.Proofs.YtedjiaenodechaaGreatDoor
open Go.RowKit
section
variable {P : Program} {md : Region.Mode} {ops : Array Oper} {T : World → Prop}
/-- A forced sequence: behind each of the first n operations the world is of the kind T. -/
def wpSeqT (P : Program) (ops : Array Oper) (T : World → Prop) (Q : Exit → Act → World → Prop) : Nat → List Oper → Act → World → Prop
  | 0, l, a, w => wpList P ops (goesOn Q) l a w
  | _ + 1, [], _, _ => False
  | n + 1, o :: l, a, w => wpList P ops (fun e a w => e = .normal ∧ T w ∧ wpSeqT P ops T Q n l a w) [o] a w
theorem seqT_zero {Q : Exit → Act → World → Prop} {l : List Oper} {a : Act} {w : World} (h : wpList P ops (goesOn Q) l a w) : wpSeqT P ops T Q 0 l a w := h
theorem seqT_succ {Q : Exit → Act → World → Prop} {n : Nat} {o : Oper} {l : List Oper} {a : Act} {w : World} (h : ∀ Q' : Exit → Act → World → Prop, (∀ a w, T w → wpSeqT P ops T Q n l a w → Q' .normal a w) → wpList P ops Q' [o] a w) : wpSeqT P ops T Q (n + 1) (o :: l) a w := h _ fun _ _ h1 h2 => ⟨rfl, h1, h2⟩
theorem wpOp_of_one {Q Q2 : Exit → Act → World → Prop} {K : Act → World → Prop} {i : Nat} {o : Oper} {a : Act} {w : World} (hi : ops[i]? = some o) (hQ : ∀ e a w, Q2 e a w → e = .normal) (hK : ∀ a w, Q2 .normal a w → K a w) (hh : wpList P ops Q2 [o] a w) : wpOp P ops Q i K a w := by
  unfold wpOp
  simp only [hi]
  unfold wpList at hh
  by_cases hwt : Region.wanted o (yielded ops a.tmps) = true
  · rw [if_pos hwt] at hh ⊢
    rcases hh with hh | ⟨_, hh⟩
    · left
      unfold Oper.wp at hh ⊢
      generalize (execOp a.eval o).run P w = r at hh ⊢
      cases r with
      | ok x w2 =>
        cases x with
        | value u => exact hK _ _ hh
        | skip => exact hK _ _ hh
        | defer d => exact hK _ _ hh
        | enter f args =>
          refine Calls.mono hh fun e w3 he => ?_
          cases e with
          | returned u => exact hK _ _ he
          | panicked c => cases hQ _ _ _ he
          | outgrown => obtain ⟨_, _, h⟩ := he; cases hQ _ _ _ h
        | row row args => exact Rows.mono hh fun u w3 he => hK _ _ he
        | _ => exact hh
      | halt x w2 =>
        cases x with
        | panic u => cases hQ _ _ _ hh
        | _ => exact hh
    · obtain ⟨_, _, h⟩ := hh; cases hQ _ _ _ h
  · rw [if_neg hwt] at hh ⊢
    exact hK _ _ hh
theorem wpAnyT_of_seqT {m : Nat} {Q : Exit → Act → World → Prop} : ∀ (n : Nat) (l : List Oper) (k : Nat) (listed : Array Bool) (a : Act) (w : World), k + n = m → (∀ j, l[j]? = ops[k + j]?) →
    Region.seqB md ops l.length k listed = true → wpSeqT P ops T Q n l a w → wpAnyT P md ops T m (goesOn Q) l.length listed a w
  | 0, l, k, listed, a, w, hm, hl, hB, h => wpAnyT_of_seq l k listed a w (by omega) hl hB h
  | n + 1, [], _, _, _, _, _, _, _, h => h.elim
  | n + 1, o :: l, k, listed, a, w, hm, hl, hB, h => by
    have h0 : ops[k]? = some o := by simpa using (hl 0).symm
    simp only [List.length_cons, Region.seqB, Bool.and_eq_true, decide_eq_true_eq] at hB
    refine ⟨fun h1 => (by rw [hB.1] at h1; cases h1), fun i hi => ?_⟩
    rw [hB.1] at hi
    obtain rfl : i = k := by simpa using hi
    exact wpOp_of_one h0 (fun e a w h => h.1) (fun a2 w2 h2 => ⟨fun _ => h2.2.1, wpAnyT_of_seqT n l (i + 1) _ a2 w2 (by omega) (fun j => by have := hl (j + 1); simpa [Nat.add_assoc, Nat.add_comm 1 j] using this) hB.2 h2.2.2⟩) h
def lexSeqB (md : Region.Mode) (ops : Array Oper) (p m : Nat) : Bool :=
  Region.noSelect ops && decide (p ≤ m) && decide (m < ops.size) && sinkFrom md ops 0 m && behindB md ops m && headB md ops (Region.seqB md ops (ops.size - p) p) p 0 (Array.replicate ops.size false)
theorem wpAny_region_seqT (T : World → Prop) {Q : Exit → Act → World → Prop} {a : Act} {w : World} {l : List Oper} (p m : Nat) (hB : lexSeqB .any l.toArray p m = true)
    (hT : T w.drew) (h : wpFloatT P l.toArray T (fun a => wpSeqT P l.toArray T Q (m - p) (l.drop p) a w.drew) (l.take p) a) : wpAny P .any l.toArray (goesOn Q) l.toArray.size (Array.replicate l.toArray.size false) a w.drew := by
  simp only [lexSeqB, Bool.and_eq_true, decide_eq_true_eq] at hB
  obtain ⟨⟨⟨⟨⟨hsel, hpm⟩, hms⟩, hs⟩, hc⟩, hlex⟩ := hB
  have hms' : m < l.length := by simpa using hms
  have hpl : (l.take p).length = p := by simp; omega
  have hdl : (l.drop p).length = l.toArray.size - p := by simp
  have inv0 : ∀ k, HeadInv .any l.toArray k (Array.replicate l.toArray.size false) := fun k =>
    ⟨by simp, fun j oj _ hl => (by rw [getD_replicate_false] at hl; cases hl), fun t _ ht => getD_in (by simpa using ht) (getD_replicate_false _ _)⟩
  refine wpAny_of_T (T := T) (m := m) _ _ _ _ ?_
  have pre := wpAnyT_of_pre (P := P) (T := T) (md := .any) (ops := l.toArray) (n := p) (m := m) (g := l.toArray.size - p) (B := Region.seqB .any l.toArray (l.toArray.size - p) p) (Q := goesOn Q) (fun c a w h => by cases h.1) hsel hpm hms
    (fun ls hi i hin hun t ht => tail_waits3 hs hc hms hi _ i rfl (Nat.zero_le _) hin hun t ht)
    (l.take p) 0 _ a w.drew (fun j hj => by have hj' : j < p := by rw [hpl] at hj; exact hj
                                            simp [hj']) (by rw [hpl]; omega) hT (inv0 p) (inv0 m) (fun j hj => absurd hj (Nat.not_lt_zero j)) (by rw [hpl]; exact hlex) ?_
  · rw [hpl, show l.toArray.size - p + p = l.toArray.size by omega] at pre
    exact pre
  · refine floatT_mono (fun a' hK => ?_) _ _ h
    intro listed' _ _ hB'
    have := wpAnyT_of_seqT (P := P) (T := T) (md := .any) (ops := l.toArray) (m := m) (Q := Q) (m - p) (l.drop p) p listed' a' w.drew (by omega) (fun j => by simp [List.getElem?_drop]) (by rw [hdl]; exact hB') hK
    rwa [hdl] at this
/-- p operations that tell one value in every world of the kind T; then a forced sequence, the operations ahead of the m-th of which stay in T. -/
theorem wp_region_seqT (T : World → Prop) {id : Nat} {Q : Exit → Act → World → Prop} {a : Act} {w : World} {l : List Oper} (p m : Nat) (hm : P.follows .mixedOrders = true) (hB : lexSeqB .any l.toArray p m = true)
    (hT : T w.drew) (h : wpFloatT P l.toArray T (fun a => wpSeqT P l.toArray T Q (m - p) (l.drop p) a w.drew) (l.take p) a) : (Code.region id l.toArray true).wp P Q a w := by
  exact Code.wp_mono (Q := goesOn Q) (fun e a w h => by obtain ⟨rfl, h⟩ := h; exact h) (wp_region_any hm (wpAny_region_seqT T p m hB hT h))
end
end Go.Proofs.YtedjiaenodechaaGreatDoor
