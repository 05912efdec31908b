/- Walks, plain: Count is the document's; what is listed behind the last path; what is below a directory, in parts. Walks: what is below a directory, in parts (the law's own recursion). Walks: WalkParts. -/
import Derived.Test.YteiblfcehlibpaaGreatDoorWD49
import Derived.Test.YteiblfcehlibpaaGreatDoorWD39
namespace Go.Proofs.YteiblfcehlibpaaGreatDoor
open Go.RowKit Go.Shelf
namespace Sp
mutual
theorem entries_leaf : ∀ (t : T), ∀ e ∈ entries t, e.2 ≠ []
  | .mk leaf k, e, h => by
    rw [entries] at h
    rcases List.mem_append.1 h with h | h
    · by_cases hl : leaf = []
      · rw [if_pos hl] at h; cases h
      · rw [if_neg hl] at h
        obtain rfl := List.mem_singleton.1 h
        exact hl
    · exact entriesL_leaf k e h
theorem entriesL_leaf : ∀ (k : List (Bs × T)), ∀ e ∈ entriesL k, e.2 ≠ []
  | [], e, h => by rw [entriesL] at h; cases h
  | (n, t) :: r, e, h => by
    rw [entriesL] at h
    rcases List.mem_append.1 h with h | h
    · obtain ⟨x, hx, rfl⟩ := List.mem_map.1 h
      exact entries_leaf t x hx
    · exact entriesL_leaf r e h
end
theorem Both.rise {o : Option T} {m : List DE} (h : Both o m) : RiseE (toP m) := by rw [h.eq]; exact riseO h.go.1
theorem Both.full {o : Option T} {m : List DE} (h : Both o m) : ∀ e ∈ m, e.2 ≠ [] := fun e he => by
  have h1 : (split e.1, e.2) ∈ entriesO o := by rw [← h.eq]; exact List.mem_map.2 ⟨e, he, rfl⟩
  cases o with
  | none => cases h1
  | some t => exact entries_leaf t _ h1
theorem filt_one (d : Bs) : ∀ m : List DE, RiseE (toP m) → (∀ e ∈ m, e.2 ≠ []) → (m.filter fun e => decide (e.1 = d)).length = if rget m d ≠ [] then 1 else 0
  | [], _, _ => rfl
  | e :: r, hr, hf => by
    have hr' : RiseE (toP r) := (List.pairwise_cons.1 hr).2
    rw [rget]
    by_cases h : e.1 = d
    · rw [if_pos h, if_pos (hf e (List.mem_cons_self ..)), List.filter_cons_of_pos (by simpa using h)]
      have : r.filter (fun e => decide (e.1 = d)) = [] := by
        rw [List.filter_eq_nil_iff]
        intro x hx hx2
        have h1 := (List.pairwise_cons.1 hr).1 (split x.1, x.2) (List.mem_map.2 ⟨x, hx, rfl⟩)
        have h2 : x.1 = d := by simpa using hx2
        simp only [h2, h, cmpP_self] at h1
        cases h1
      rw [this]; rfl
    · rw [if_neg h, List.filter_cons_of_neg (by simpa using h)]
      exact filt_one d r hr' (fun x hx => hf x (List.mem_cons_of_mem _ hx))
theorem count_both {o : Option T} {m : List DE} (h : Both o m) (d : Bs) : rcountS m d = wcountS o d := by
  unfold rcountS wcountS
  rw [h.told, filt_one d m h.rise h.full]
  congr 1
  by_cases hd : d = []
  · subst hd
    rw [rget_bad h.gm.1 check_nil]; simp
  · by_cases hp : parts d = []
    · have hc : check d ≠ 0 := fun h => by
        have h2 := (check_parts h).1
        rw [hp] at h2
        exact split_ne d h2.symm
      rw [rget_bad h.gm.1 hc]
      have : findS (o.getD .nil) d = none := by unfold findS; rw [if_neg hd, if_pos hp]
      rw [nodeS, this]; simp
    · have hdir : Dir d := .inr (check_of_parts hp)
      obtain ⟨f1, f2⟩ := at_both h.eq h.go h.gm d hdir
      have hs : findS (o.getD .nil) d = findT (o.getD .nil) (parts d) := by unfold findS; rw [if_neg hd, if_neg hp]
      rw [nodeS, hs]
      cases hf : findT (o.getD .nil) (parts d) with
      | none =>
        rw [hf] at f1
        rw [get_subs m h.gm.1 d hdir, f1]
        simp [entriesO, get0]
      | some s =>
        obtain ⟨g1, g2, g3⟩ := f2 s hf
        simp only [nodeT_leaf, g2]
        by_cases hl : s.leaf = [] <;> simp [hl, hd]
/-! Lists behind the last path. -/
theorem less_gt {a b : List Bs} (h : cmpP a b = -1) : cmpP b a = 1 := by
  rcases cmpP_range b a with h1 | h1 | h1
  · have := cmpP_trans _ _ _ h h1
    rw [cmpP_self] at this; cases this
  · have := cmpP_zero h1
    subst this
    rw [cmpP_self] at h; cases h
  · exact h1
theorem filter_drop : ∀ (U : List DE), RiseE (toP U) → ∀ n (h : n < U.length), U.filter (fun e => decide (0 < compare e.1 U[n].1)) = U.drop (n + 1)
  | e :: r, hr, 0, h => by
    rw [List.filter_cons_of_neg (by simp [compare, cmpP_self])]
    show r.filter _ = r
    apply List.filter_eq_self.2
    intro x hx
    have h1 := (List.pairwise_cons.1 hr).1 (split x.1, x.2) (List.mem_map.2 ⟨x, hx, rfl⟩)
    have h2 := less_gt h1
    exact decide_eq_true (show (0 : Int) < cmpP (split x.1) (split e.1) by
      have h3 : cmpP (split x.1) (split e.1) = 1 := h2
      omega)
  | e :: r, hr, n + 1, h => by
    have hn : n < r.length := by simpa using h
    have h1 := (List.pairwise_cons.1 hr).1 (split r[n].1, r[n].2) (List.mem_map.2 ⟨r[n], List.getElem_mem hn, rfl⟩)
    simp only at h1
    rw [List.filter_cons_of_neg (by simp [compare, h1])]
    exact filter_drop r (List.pairwise_cons.1 hr).2 n hn
theorem rise_filter {m : List DE} (h : RiseE (toP m)) (p : DE → Bool) : RiseE (toP (m.filter p)) := by
  unfold RiseE toP at *
  rw [List.pairwise_map] at *
  exact h.filter _
/-- The path of the last of so many. -/
def lastD (U : List DE) : Nat → Bs
  | 0 => []
  | n + 1 => (U[n]?.map (·.1)).getD []
theorem lastD_len {U : List DE} (h : ∀ e ∈ U, e.1.length ≤ 1000000) : ∀ n, (lastD U n).length ≤ 1000000
  | 0 => Nat.zero_le _
  | n + 1 => by
    show ((U[n]?.map (·.1)).getD []).length ≤ 1000000
    cases e : U[n]? with
    | none => exact Nat.zero_le _
    | some x => exact h x (List.mem_of_getElem? e)
theorem wlist_at {m : List DE} (hr : RiseE (toP m)) (d : Bs) (n : Nat) (hn : n ≤ (wunder m d).length) (k : Int) : wlist m d (lastD (wunder m d) n) k = ((wunder m d).drop n).take k.toNat := by
  have hb : ∀ a, (m.filter fun e => behind d a e.1) = (wunder m d).filter fun e => decide (0 < compare e.1 a) := by
    intro a
    unfold wunder
    rw [List.filter_filter]
    congr 1
    funext e
    unfold behind
    rw [Bool.and_comm]
  unfold wlist
  congr 1
  cases n with
  | zero =>
    have h0 := wlist_all m d
    unfold wlist at h0
    rw [List.take_of_length_le (by rw [Int.toNat_natCast]; exact List.length_filter_le _ _)] at h0
    exact h0
  | succ n =>
    rw [hb]
    have : lastD (wunder m d) (n + 1) = ((wunder m d)[n]'(by omega)).1 := by
      show (((wunder m d)[n]?).map (·.1)).getD [] = _
      rw [List.getElem?_eq_getElem (by omega)]; rfl
    rw [this]
    exact filter_drop (wunder m d) (rise_filter hr _) n (show n < (wunder m d).length by omega)
theorem rgo_len1 (p : Bs) (vs : List Ver) : ∀ (l : List DE) (b : Bool), (rgo p vs b l).length ≤ l.length + if b = true then 0 else 1
  | [], b => by rw [rgo]; split <;> simp
  | e :: r, b => by
    rw [rgo, List.length_append, List.length_append]
    have h1 : (if e.1 = p then ([] : List DE) else [e]).length ≤ 1 := by split <;> simp
    cases b with
    | true =>
      have := rgo_len1 p vs r true
      rw [if_neg (by simp)]
      simp only [Bool.true_or, List.length_nil, List.length_cons, if_true] at this ⊢
      omega
    | false =>
      by_cases h : compare p e.1 ≤ 0
      · have := rgo_len1 p vs r true
        rw [if_pos ⟨rfl, h⟩]
        simp only [h, decide_true, Bool.false_or, List.length_nil, List.length_cons, if_true] at this ⊢
        simp
        omega
      · have := rgo_len1 p vs r false
        rw [if_neg (fun hh => h hh.2)]
        simp only [h, decide_false, Bool.false_or, List.length_nil, List.length_cons] at this ⊢
        simp at this ⊢
        omega
theorem rset_len (m : List DE) (p : Bs) (l : List Ver) : (rset m p l).length ≤ m.length + 1 := by
  have := rgo_len1 p l m (decide (l = []))
  unfold rset
  split at this <;> omega
theorem rsetS_len (m : List DE) (p : Bs) (l : List Ver) : (rsetS m p l).1.length ≤ m.length + 1 := by
  unfold rsetS
  split
  · simp
  · split
    · simp
    · split
      · simp
      · exact rset_len m p l
theorem rof_len : ∀ (l m : List DE), (rof m l).1.length ≤ m.length + l.length
  | [], m => Nat.le_refl _
  | e :: r, m => by
    rw [rof]
    split
    · simp
    · have h1 := rof_len r (rsetS m e.1 e.2).1
      have h2 := rsetS_len m e.1 e.2
      rw [List.length_cons]; omega
/-! What is below a directory, in parts. -/
def lessW (a b : Bs) : Prop := cmpP [a] [b] = -1
theorem lessW_trans {a b c : Bs} (h : lessW a b) (h' : lessW b c) : lessW a c := cmpP_trans _ _ _ h h'
theorem lessW_irr (a : Bs) : ¬ lessW a a := fun h => by unfold lessW at h; rw [cmpP_self] at h; cases h
theorem dd_less : ∀ (l : List Bs) (x : Bs), (x :: l).Pairwise (fun a b => a = b ∨ lessW a b) → (∀ y ∈ dd (some x) l, lessW x y) ∧ (dd (some x) l).Pairwise lessW
  | [], x, _ => ⟨(fun y h => by rw [dd] at h; cases h), List.Pairwise.nil⟩
  | y :: r, x, h => by
    obtain ⟨h1, h2⟩ := List.pairwise_cons.1 h
    rw [dd]
    by_cases hxy : some x = some y
    · obtain rfl : x = y := Option.some.inj hxy
      rw [if_pos rfl]
      exact dd_less r x h2
    · rw [if_neg hxy]
      have hl : lessW x y := (h1 y (List.mem_cons_self ..)).resolve_left fun e => hxy (by rw [e])
      obtain ⟨i1, i2⟩ := dd_less r y h2
      refine ⟨fun z hz => ?_, List.pairwise_cons.2 ⟨i1, i2⟩⟩
      rcases List.mem_cons.1 hz with rfl | hz
      · exact hl
      · exact lessW_trans hl (i1 z hz)
theorem ddf_less {l : List Bs} (h : l.Pairwise (fun a b => a = b ∨ lessW a b)) : (ddf l).Pairwise lessW := by
  rw [← dd_ddf]
  cases l with
  | nil => exact List.Pairwise.nil
  | cons x r =>
    obtain ⟨i1, i2⟩ := dd_less r x h
    exact List.pairwise_cons.2 ⟨i1, i2⟩
theorem dd_mem : ∀ (l : List Bs) (p : Option Bs) (x : Bs), x ∈ l → x ∈ dd p l ∨ p = some x
  | y :: r, p, x, h => by
    rw [dd]
    by_cases hp : p = some y
    · rw [if_pos hp]
      rcases List.mem_cons.1 h with rfl | h
      · exact .inr hp
      · exact dd_mem r p x h
    · rw [if_neg hp]
      rcases List.mem_cons.1 h with rfl | h
      · exact .inl (List.mem_cons_self ..)
      · rcases dd_mem r (some y) x h with h | h
        · exact .inl (List.mem_cons_of_mem _ h)
        · obtain rfl := Option.some.inj h
          exact .inl (List.mem_cons_self ..)
theorem dd_sub : ∀ (l : List Bs) (p : Option Bs) (x : Bs), x ∈ dd p l → x ∈ l
  | y :: r, p, x, h => by
    rw [dd] at h
    split at h
    · exact List.mem_cons_of_mem _ (dd_sub r p x h)
    · rcases List.mem_cons.1 h with rfl | h
      · exact List.mem_cons_self ..
      · exact List.mem_cons_of_mem _ (dd_sub r (some y) x h)
  | [], p, x, h => by rw [dd] at h; cases h
theorem sum_one (x : Bs) : ∀ (L : List Bs), L.Pairwise lessW → (L.map fun s => if s = x then 1 else 0).sum = if x ∈ L then 1 else 0
  | [], _ => rfl
  | s :: r, h => by
    obtain ⟨h1, h2⟩ := List.pairwise_cons.1 h
    rw [List.map_cons, List.sum_cons, sum_one x r h2]
    by_cases hs : s = x
    · subst hs
      have : s ∉ r := fun hh => lessW_irr s (h1 s hh)
      simp [this]
    · have hs' : ¬ x = s := fun e => hs e.symm
      simp [hs, hs']
theorem sum_counts (L : List Bs) (hL : L.Pairwise lessW) : ∀ (N : List Bs), (∀ x ∈ N, x ∈ L) → (L.map fun s => (N.filter fun y => decide (y = s)).length).sum = N.length
  | [], _ => by
    clear hL
    induction L with
    | nil => rfl
    | cons a r ih => simpa using ih
  | x :: r, h => by
    have ih := sum_counts L hL r fun y hy => h y (List.mem_cons_of_mem _ hy)
    have h1 := sum_one x L hL
    rw [if_pos (h x (List.mem_cons_self ..))] at h1
    have h2 : ∀ M : List Bs, (M.map fun s => ((x :: r).filter fun y => decide (y = s)).length).sum = (M.map fun s => if s = x then 1 else 0).sum + (M.map fun s => (r.filter fun y => decide (y = s)).length).sum := by
      intro M
      induction M with
      | nil => rfl
      | cons s M ihM =>
        rw [List.map_cons, List.sum_cons, List.map_cons, List.sum_cons, List.map_cons, List.sum_cons, ihM]
        by_cases hs : s = x
        · subst hs
          rw [List.filter_cons_of_pos (by simp)]
          simp
          omega
        · have hs' : ¬ x = s := fun e => hs e.symm
          rw [List.filter_cons_of_neg (by simpa using hs')]
          simp [hs]
          omega
    rw [h2, h1, ih, List.length_cons]; omega
theorem under_parts {p d : Bs} (h : under p d = true) : parts p ≠ [] ∧ (d = [] ∨ parts d ≠ []) ∧ (parts d).length < (parts p).length ∧ (parts p).take (parts d).length = parts d := by
  unfold under at h
  simpa [and_assoc] using h
theorem under_of {p d : Bs} (h : parts p ≠ [] ∧ (d = [] ∨ parts d ≠ []) ∧ (parts d).length < (parts p).length ∧ (parts p).take (parts d).length = parts d) : under p d = true := by
  unfold under
  simpa [and_assoc] using h
theorem cmpP_app : ∀ (D a b : List Bs), cmpP (D ++ a) (D ++ b) = cmpP a b
  | [], _, _ => rfl
  | x :: D, a, b => by
    rw [List.cons_append, List.cons_append, cmpP, if_pos rfl]
    exact cmpP_app D a b
theorem cmpP_head {x y : Bs} {a b : List Bs} (h : cmpP (x :: a) (y :: b) = -1) : x = y ∨ lessW x y := by
  rw [cmpP] at h
  by_cases e : x = y
  · exact .inl e
  · rw [if_neg e] at h
    right
    unfold lessW
    rw [cmpP, if_neg e]
    exact h
theorem split_at {α : Type} (l : List α) (n : Nat) (d : α) (h : n < l.length) : l = l.take n ++ l.getD n d :: l.drop (n + 1) := by
  rw [List.getD_eq_getElem?_getD, List.getElem?_eq_getElem h, Option.getD_some, List.getElem_cons_drop, List.take_append_drop]
theorem dnames_sorted {m : List DE} (hr : RiseE (toP m)) (hm : Paths m) (d : Bs) : (dnames (parts d).length (wunder m d)).Pairwise fun a b => a = b ∨ lessW a b := by
  unfold dnames
  rw [List.pairwise_flatMap]
  refine ⟨fun e _ => by split <;> simp, ?_⟩
  have h1 : (wunder m d).Pairwise fun a b => cmpP (split a.1) (split b.1) = -1 := by
    have := rise_filter hr fun e => under e.1 d
    unfold RiseE toP at this
    rw [List.pairwise_map] at this
    exact this
  refine List.Pairwise.imp_of_mem ?_ h1
  intro a b ha hb hab x hx y hy
  obtain ⟨am, au⟩ := List.mem_filter.1 ha
  obtain ⟨bm, bu⟩ := List.mem_filter.1 hb
  have au' := under_parts au
  have bu' := under_parts bu
  rw [← (check_parts (hm a am)).1, ← (check_parts (hm b bm)).1] at hab
  rw [split_at (parts a.1) _ [] au'.2.2.1, split_at (parts b.1) _ [] bu'.2.2.1, au'.2.2.2, bu'.2.2.2, cmpP_app] at hab
  have := cmpP_head hab
  split at hx
  · split at hy
    · obtain rfl := List.mem_singleton.1 hx
      obtain rfl := List.mem_singleton.1 hy
      exact this
    · cases hy
  · cases hx
theorem dirsS_mem {m : List DE} {d s : Bs} : s ∈ dirsS m d ↔ ∃ e ∈ wunder m d, (parts d).length + 1 < (parts e.1).length ∧ (parts e.1).getD (parts d).length [] = s := by
  unfold dirsS
  rw [← dd_ddf]
  constructor
  · intro h
    have h1 := dd_sub _ _ _ h
    unfold dnames at h1
    obtain ⟨e, he, hx⟩ := List.mem_flatMap.1 h1
    split at hx
    · rename_i hl
      exact ⟨e, he, hl, (List.mem_singleton.1 hx).symm⟩
    · cases hx
  · rintro ⟨e, he, hl, rfl⟩
    have : (parts e.1).getD (parts d).length [] ∈ dnames (parts d).length (wunder m d) := by
      unfold dnames
      refine List.mem_flatMap.2 ⟨e, he, ?_⟩
      rw [if_pos hl]
      exact List.mem_singleton.2 rfl
    exact (dd_mem _ none _ this).resolve_right (by simp)
/-- A directory right below another one. -/
theorem dirs_down {m : List DE} (hm : Paths m) {d : Bs} (hd : Dir d) {s : Bs} (hs : s ∈ dirsS m d) : Dir (down d s) ∧ parts (down d s) = parts d ++ [s] ∧ (parts d).length + 1 < 4 ∧ wunder m (down d s) ≠ [] := by
  obtain ⟨e, he, hl, hg⟩ := dirsS_mem.1 hs
  obtain ⟨em, eu⟩ := List.mem_filter.1 he
  have eu' := under_parts eu
  have hc := check_parts (hm e em)
  have hsp : split e.1 = (parts d ++ [s]) ++ (parts e.1).drop ((parts d).length + 1) := by
    rw [← hc.1]
    have := split_at (parts e.1) _ [] eu'.2.2.1
    rw [eu'.2.2.2, hg] at this
    rw [List.append_assoc]
    exact this
  have hp := check_prefix (hm e em) hsp (by simp)
  have hdn := down_is hd s
  rw [← hdn] at hp
  refine ⟨.inr hp.1, hp.2, by rw [hc.1] at hl; omega, ?_⟩
  intro hnil
  have : e ∈ wunder m (down d s) := by
    refine List.mem_filter.2 ⟨em, under_of ⟨eu'.1, .inr (by rw [hp.2]; simp), ?_, ?_⟩⟩
    · rw [hp.2, List.length_append]; exact hl
    · rw [hp.2, hc.1, hsp, List.take_left]
  rw [hnil] at this
  cases this
theorem wunder_down {m : List DE} (hm : Paths m) {d : Bs} (hd : Dir d) {s : Bs} (hs : s ∈ dirsS m d) : (wunder m (down d s)).length = ((dnames (parts d).length (wunder m d)).filter fun y => decide (y = s)).length := by
  obtain ⟨_, hp, _, _⟩ := dirs_down hm hd hs
  have hdd : d = [] ∨ parts d ≠ [] := by
    have := dir_parts hd
    simpa using this
  have key : ∀ l : List DE, (l.filter fun e => under e.1 (down d s)).length = ((dnames (parts d).length (l.filter fun e => under e.1 d)).filter fun y => decide (y = s)).length := by
    intro l
    induction l with
    | nil => rfl
    | cons e r ih =>
      have hcase : under e.1 (down d s) = (under e.1 d && (decide ((parts d).length + 1 < (parts e.1).length) && decide ((parts e.1).getD (parts d).length [] = s))) := by
        rw [Bool.eq_iff_iff]
        simp only [Bool.and_eq_true, decide_eq_true_eq]
        constructor
        · intro h
          have h' := under_parts h
          rw [hp, List.length_append, List.length_cons, List.length_nil] at h'
          obtain ⟨h1, h2, h3, h4⟩ := h'
          have h5 := split_at (parts e.1) (parts d).length [] (by omega)
          have h6 : (parts e.1).take ((parts d).length + (0 + 1)) = (parts e.1).take (parts d).length ++ [(parts e.1).getD (parts d).length []] := by
            rw [Nat.zero_add, List.take_succ_eq_append_getElem (by omega), List.getD_eq_getElem?_getD, List.getElem?_eq_getElem (by omega), Option.getD_some]
          rw [h6] at h4
          have h7 := List.append_inj' h4 rfl
          refine ⟨under_of ⟨h1, hdd, by omega, h7.1⟩, by omega, ?_⟩
          simpa using h7.2
        · rintro ⟨h, h2, h3⟩
          have h' := under_parts h
          refine under_of ⟨h'.1, .inr (by rw [hp]; simp), ?_, ?_⟩
          · rw [hp, List.length_append]; exact h2
          · rw [hp, List.length_append, List.length_cons, List.length_nil, Nat.zero_add, List.take_succ_eq_append_getElem (by omega), h'.2.2.2]
            rw [List.getD_eq_getElem?_getD, List.getElem?_eq_getElem (by omega), Option.getD_some] at h3
            rw [h3]
      by_cases hu : under e.1 d = true
      · rw [List.filter_cons_of_pos (p := fun e : DE => under e.1 d) hu]
        have e1 : dnames (parts d).length (e :: r.filter fun e => under e.1 d) = (if (parts d).length + 1 < (parts e.1).length then [(parts e.1).getD (parts d).length []] else []) ++ dnames (parts d).length (r.filter fun e => under e.1 d) := by unfold dnames; rw [List.flatMap_cons]
        rw [e1, List.filter_append, List.length_append, ← ih]
        by_cases hl : (parts d).length + 1 < (parts e.1).length
        · rw [if_pos hl]
          by_cases hg : (parts e.1).getD (parts d).length [] = s
          · rw [List.filter_cons_of_pos (by rw [hcase, hu]; simp only [hl, hg]; rfl), List.length_cons, List.filter_cons_of_pos (by simpa using hg)]
            simp; omega
          · rw [List.filter_cons_of_neg (by rw [hcase, hu]; simp only [hg, decide_false, Bool.and_false]; simp), List.filter_cons_of_neg (by simpa using hg)]
            simp
        · rw [if_neg hl, List.filter_cons_of_neg (by rw [hcase]; simp only [hl, decide_false, Bool.false_and, Bool.and_false]; simp)]
          simp
      · rw [List.filter_cons_of_neg (p := fun e : DE => under e.1 d) hu, ← ih, List.filter_cons_of_neg (by rw [hcase]; simp only [Bool.not_eq_true] at hu; rw [hu]; simp)]
  exact key m
/-- So many paths stand right below a directory. -/
def here (n : Nat) (l : List DE) : Nat := (l.filter fun e => decide ((parts e.1).length = n + 1)).length
theorem here_names (m : List DE) (d : Bs) : here (parts d).length (wunder m d) + (dnames (parts d).length (wunder m d)).length = (wunder m d).length := by
  have key : ∀ l : List DE, (∀ e ∈ l, (parts d).length < (parts e.1).length) → here (parts d).length l + (dnames (parts d).length l).length = l.length := by
    intro l
    induction l with
    | nil => intro _; rfl
    | cons e r ih =>
      intro h
      have ih := ih fun x hx => h x (List.mem_cons_of_mem _ hx)
      have h1 := h e (List.mem_cons_self ..)
      have e1 : dnames (parts d).length (e :: r) = (if (parts d).length + 1 < (parts e.1).length then [(parts e.1).getD (parts d).length []] else []) ++ dnames (parts d).length r := by unfold dnames; rw [List.flatMap_cons]
      rw [e1, List.length_append]
      unfold here at ih ⊢
      by_cases hl : (parts d).length + 1 < (parts e.1).length
      · rw [if_pos hl, List.filter_cons_of_neg (by simp; omega), List.length_cons, List.length_cons, List.length_nil]; omega
      · rw [if_neg hl, List.filter_cons_of_pos (by simp; omega), List.length_cons, List.length_cons, List.length_nil]; omega
  exact key _ fun e he => (under_parts (List.mem_filter.1 he).2).2.2.1
/-- What is below a directory is what is right below it, and what is below its directories. -/
theorem parts_sum {m : List DE} (hr : RiseE (toP m)) (hm : Paths m) {d : Bs} (hd : Dir d) : here (parts d).length (wunder m d) + ((dirsS m d).map fun s => (wunder m (down d s)).length).sum = (wunder m d).length := by
  have h1 : (dirsS m d).map (fun s => (wunder m (down d s)).length) = (dirsS m d).map fun s => ((dnames (parts d).length (wunder m d)).filter fun y => decide (y = s)).length :=
    List.map_congr_left fun s hs => wunder_down hm hd hs
  rw [h1, show dirsS m d = ddf (dnames (parts d).length (wunder m d)) from rfl, sum_counts _ (ddf_less (dnames_sorted hr hm d)) _ fun x hx => ?_]
  · exact here_names m d
  · rw [← dd_ddf]
    exact (dd_mem _ none _ hx).resolve_right (by simp)
end Sp
end Go.Proofs.YteiblfcehlibpaaGreatDoor
namespace Go.Proofs.YteiblfcehlibpaaGreatDoor
open Go.RowKit Go.Shelf
attribute [local go_sem] yUpon strOf_toList
namespace Sp
theorem here_take (n : Nat) (l : List DE) (k : Nat) (h : k < l.length) : here n (l.take (k + 1)) = here n (l.take k) + if (parts l[k].1).length = n + 1 then 1 else 0 := by
  unfold here
  rw [List.take_succ_eq_append_getElem h, List.filter_append, List.length_append]
  by_cases hp : (parts l[k].1).length = n + 1
  · rw [if_pos hp, List.filter_cons_of_pos (by simpa using hp)]; rfl
  · rw [if_neg hp, List.filter_cons_of_neg (by simpa using hp)]; rfl
theorem here_len (n : Nat) (l : List DE) : here n l ≤ l.length := List.length_filter_le _ _
theorem sum_take {α : Type} (f : α → Nat) (l : List α) (k : Nat) (h : k < l.length) : ((l.take (k + 1)).map f).sum = ((l.take k).map f).sum + f l[k] := by
  rw [List.take_succ_eq_append_getElem h, List.map_append, List.sum_append]; simp
theorem sum_le {α : Type} (f : α → Nat) (l : List α) (k : Nat) : ((l.take k).map f).sum ≤ (l.map f).sum := by
  have h : (l.map f).sum = ((l.take k).map f).sum + ((l.drop k).map f).sum := by
    rw [← List.sum_append, ← List.map_append, List.take_append_drop]
  omega
theorem dir_len {d : Bs} (h : Dir d) : d.length ≤ 51 := by
  rcases h with rfl | h
  · exact Nat.zero_le _
  · exact (check_parts h).2.1
theorem dirs_name {m : List DE} (hm : Paths m) {d s : Bs} (hs : s ∈ dirsS m d) : s.length ≤ 12 := by
  obtain ⟨e, he, hl, rfl⟩ := dirsS_mem.1 hs
  have hc := check_parts (hm e (List.mem_filter.1 he).1)
  rw [← hc.1] at hc
  have hl2 : (parts d).length < (parts e.1).length := by omega
  rw [List.getD_eq_getElem?_getD, List.getElem?_eq_getElem hl2, Option.getD_some]
  exact name_len (List.all_eq_true.1 hc.2.2.2 _ (List.getElem_mem hl2))
end Sp
set_option maxRecDepth 100000 in
set_option maxHeartbeats 4000000 in
theorem wparts_calls (o : Option Sp.T) (v : Value) (m : List Sp.DE) (BO : Sp.Both o m) (n : Nat) : ∀ (deep : Nat) (d : Sp.Bs) (w : World), deep + n = 4 → Sp.Dir d → (Sp.parts d).length = deep → deep ≤ 3 → TreeAt w v o → KeysAt w 4 → MaxAt w →
    Calls Tryz.prog 23 #[v, .string (strOf d), .int .i64 deep] w fun e w' => e = .returned (.bool true) ∧ Ext w w' := by
  induction n with
  | zero => intro deep d w hn _ _ h3; omega
  | succ n ih =>
    intro deep d w hn hd hl h3 hT K M
    have TO := Lib.hid BO.told
    have WD := Lib.hid (wdirs_calls o v d w hT BO.go BO.short BO.len BO.many K M)
    have UC := Lib.hid fun s W (e : Ext w W) => wunder_calls o v s W (hT.ext e) BO.go BO.short BO.len BO.many (K.ext e) (max_kept M e)
    rw [TO.out] at WD UC
    have SUM := Lib.hid (Sp.parts_sum BO.rise BO.gm.1 hd)
    rw [hl] at SUM
    have DN := Lib.hid fun s (hs : s ∈ Sp.dirsS m d) => Sp.dirs_down BO.gm.1 hd hs
    rw [hl] at DN
    have NL := Lib.hid fun s (hs : s ∈ Sp.dirsS m d) => Sp.dirs_name BO.gm.1 hs
    have IH := Lib.hid fun s (hs : s ∈ Sp.dirsS m d) W (e : Ext w W) => ih (deep + 1) (Sp.down d s) W (by omega) (DN.out s hs).1 (by rw [(DN.out s hs).2.1, List.length_append, hl]; rfl) (by have := (DN.out s hs).2.2.1; omega) (hT.ext e) (K.ext e) (max_kept M e)
    have DL := Lib.hid (Sp.dir_len hd)
    have PL := Lib.hid (show ∀ e ∈ Sp.wunder m d, e.1.length ≤ 1000000 from fun e he => BO.mlen e (List.mem_filter.1 he).1)
    have hdl : (Sp.dirsS m d).length ≤ 1000 := Nat.le_trans (Nat.le_trans (Sp.ddf_len _) (Sp.dnames_len _ _)) (Nat.le_trans (Sp.wunder_len m d) BO.mmany)
    have hul : (Sp.wunder m d).length ≤ 1000 := Nat.le_trans (Sp.wunder_len m d) BO.mmany
    obtain ⟨U, hU⟩ : ∃ U, U = Sp.wunder m d := ⟨_, rfl⟩
    have UD := Lib.hid (UC.out d)
    rw [← hU] at UD SUM PL hul
    obtain ⟨L, hL⟩ : ∃ L, L = Sp.dirsS m d := ⟨_, rfl⟩
    rw [← hL] at WD SUM DN NL IH hdl
    obtain ⟨fs, hfs⟩ : ∃ fs : Sp.Bs → Nat, fs = fun s => (Sp.wunder m (Sp.down d s)).length := ⟨_, rfl⟩
    have FS := Lib.hid (show ∀ s, (Sp.wunder m (Sp.down d s)).length = fs s from fun s => by rw [hfs])
    rw [← hfs] at SUM
    have F0 := Lib.hid (show ∀ s ∈ L, fs s ≠ 0 from fun s hs => by rw [← FS.out]; exact fun h => (DN.out s hs).2.2.2 (List.eq_nil_of_length_eq_zero h))
    obtain ⟨ap, rfl⟩ := tree_ptr hT
    clear hU hL hfs DN BO TO hd hl hT K M ih hn
    go_enter Tryz.func23, Tryz.ntmps23
    go_wp2_with fail
    refine WD.out.mono ?_
    rintro e w2 ⟨A2, c2, rfl, hn2, hb2⟩
    have N2 := Lib.hid hn2
    have B2 := Lib.hid hb2
    clear hn2 hb2
    go_wp2_with fail
    refine (UD.out w2 B2.out).mono ?_
    rintro e w3 ⟨v3, rfl, hO3, hb3⟩
    obtain ⟨A3, c3, rfl, hE3⟩ := hO3.read
    have E3 := Lib.hid hE3
    have N3 := Lib.hid (N2.out.ext hb3)
    have B3 := Lib.hid (B2.out.trans hb3)
    clear hO3 hE3 hb3
    go_wp2
    go_loopw [7, 10] (fun v7 v10 wr => ∃ k : Nat, k ≤ U.length ∧ v7 = .int .i64 (Sp.here deep (U.take k) : Nat) ∧ v10 = .int .i64 k ∧ Ext w3 wr) (fun _ v10 _ => U.length - (intOf v10).toNat)
    case atStart => exact ⟨0, Nat.zero_le _, rfl, rfl, Ext.refl _⟩
    case round =>
      obtain ⟨k, hk, rfl, rfl, hb⟩ := hrel
      have HB := Lib.hid hb
      by_cases hlt : k < U.length
      · obtain ⟨eb, eo, rfl, he⟩ := (E3.out.ext hb).at (by omega)
        obtain ⟨Av, cv, f0, _, _⟩ := he k hlt
        have HT := Lib.hid (Sp.here_take deep U k hlt)
        have hh := Sp.here_len deep (U.take k)
        rw [List.length_take] at hh
        obtain ⟨q, hq⟩ : ∃ q, q = Sp.here deep (U.take k) := ⟨_, rfl⟩
        rw [← hq] at HT hh ⊢
        obtain ⟨x, hx⟩ : ∃ x, x = U[k] := ⟨_, rfl⟩
        have XL := Lib.hid (show x.1.length ≤ 1000000 by rw [hx]; exact PL.out _ (List.getElem_mem hlt))
        rw [← hx] at f0 HT
        have b1 : (k : Int) < (U.length : Int) := by omega
        clear hb he hx hq
        go_wp2_with fail
        refine (rpparts_calls x.1 _ XL.out).mono ?_
        rintro e w4 ⟨A4, c4, rfl, _, hb4⟩
        have B4 := Lib.hid (HB.out.trans hb4)
        have p4 := Sp.parts_len x.1
        obtain ⟨pl, hpl⟩ : ∃ pl, pl = (Sp.parts x.1).length := ⟨_, rfl⟩
        rw [← hpl] at HT p4 ⊢
        clear hb4 hpl f0
        by_cases hp : pl = deep + 1
        · have HT2 := Lib.hid (show Sp.here deep (U.take (k + 1)) = q + 1 by rw [HT.out, if_pos hp])
          have c5 : ((pl : Int) == (deep : Int) + 1) = true := by rw [hp]; simp
          have PP := Lib.hid hp
          clear hp
          go_wp2
          go_roundw
          case rel => exact ⟨k + 1, by omega, by rw [HT2.out]; go_num, by go_num, B4.out⟩
          case measure => simp [intOf]; omega
        · have HT2 := Lib.hid (show Sp.here deep (U.take (k + 1)) = q by rw [HT.out, if_neg hp]; rfl)
          have c5 : ((pl : Int) == (deep : Int) + 1) = false := by rw [beq_eq_false_iff_ne]; omega
          have PP := Lib.hid hp
          clear hp
          go_wp2
          go_roundw
          case rel => exact ⟨k + 1, by omega, by rw [HT2.out], by go_num, B4.out⟩
          case measure => simp [intOf]; omega
      · obtain rfl : k = U.length := by omega
        rw [List.take_length]
        have hh := Sp.here_len deep U
        obtain ⟨q, hq⟩ : ∃ q, q = Sp.here deep U := ⟨_, rfl⟩
        rw [← hq] at SUM hh ⊢
        obtain ⟨w4, hw4⟩ : ∃ w4, w4 = wr := ⟨_, rfl⟩
        rw [← hw4] at HB ⊢
        have N4 := Lib.hid (N3.out.ext HB.out)
        have B4 := Lib.hid (B3.out.trans HB.out)
        have c9 : ¬ (5 : Int) < (deep : Int) := by omega
        clear hb hq hw4
        go_wp2
        go_loopw [7, 11] (fun v7 v11 wr => ∃ k : Nat, k ≤ L.length ∧ v7 = .int .i64 (q + ((L.take k).map fs).sum : Nat) ∧ v11 = .int .i64 k ∧ Ext w4 wr) (fun _ v11 _ => L.length - (intOf v11).toNat)
        case atStart => exact ⟨0, Nat.zero_le _, rfl, rfl, Ext.refl _⟩
        case round =>
          obtain ⟨k, hk, rfl, rfl, hb⟩ := hrel
          have HB5 := Lib.hid hb
          by_cases hlt : k < L.length
          · obtain ⟨g, o', rfl, hc⟩ := (N4.out.ext hb).at (by omega)
            have f0 := hc k hlt
            have ST := Lib.hid (Sp.sum_take fs L k hlt)
            have hle := Sp.sum_le fs L (k + 1)
            rw [ST.out] at hle
            obtain ⟨s, hs⟩ : ∃ s, s = L[k] := ⟨_, rfl⟩
            have hm : s ∈ L := by rw [hs]; exact List.getElem_mem hlt
            rw [← hs] at f0 ST hle
            have s1 := NL.out s hm
            have s2 := F0.out s hm
            have UX := Lib.hid fun W (e : Ext w W) => UC.out (Sp.down d s) W e
            have IX := Lib.hid fun W (e : Ext w W) => IH.out s hm W e
            obtain ⟨X, hX⟩ : ∃ X, X = Sp.wunder m (Sp.down d s) := ⟨_, rfl⟩
            have hXl : X.length = fs s := by rw [hX, FS.out]
            rw [← hX] at UX
            obtain ⟨f, hf⟩ : ∃ f, f = fs s := ⟨_, rfl⟩
            rw [← hf] at ST hle s2 hXl
            obtain ⟨p, hp⟩ : ∃ p, p = ((L.take k).map fs).sum := ⟨_, rfl⟩
            rw [← hp] at ST hle ⊢
            obtain ⟨S, hS⟩ : ∃ S, S = (L.map fs).sum := ⟨_, rfl⟩
            rw [← hS] at hle SUM
            have hS2 := SUM.out
            obtain ⟨dn, hdn⟩ : ∃ dn, dn = Sp.down d s := ⟨_, rfl⟩
            have DC := Lib.hid fun W => down_calls d s W (by have := DL.out; omega) (by omega)
            rw [← hdn] at UX IX DC
            have b1 : (k : Int) < (L.length : Int) := by omega
            have EQ := Lib.hid hXl
            have c7 : ((f : Int) == 0) = false := by rw [beq_eq_false_iff_ne]; omega
            have e1 : ((deep + 1 : Nat) : Int) = (deep : Int) + 1 := by omega
            rw [e1] at IX
            clear hb hc hs hm hX hXl hf hp hS hdn e1
            go_wp2_with fail
            refine (DC.out wr).mono ?_
            rintro e w5 ⟨rfl, rfl⟩
            clear f0
            go_wp2_with fail
            refine (UX.out _ (B4.out.trans HB5.out)).mono ?_
            rintro e w6 ⟨v6, rfl, hO6, hb6⟩
            obtain ⟨A6, c6, rfl, _⟩ := hO6.read
            have B6 := Lib.hid (HB5.out.trans hb6)
            rw [EQ.out]
            clear hO6 hb6
            go_wp2_with fail
            refine (IX.out w6 (B4.out.trans B6.out)).mono ?_
            rintro e w7 ⟨rfl, hb7⟩
            have B7 := Lib.hid (B6.out.trans hb7)
            clear hb7
            go_wp2
            go_roundw
            case rel => exact ⟨k + 1, by omega, by rw [ST.out]; go_num, by go_num, B7.out⟩
            case measure => simp [intOf]; omega
          · obtain rfl : k = L.length := by omega
            rw [List.take_length]
            rw [SUM.out]
            clear hb
            go_wp2
            go_ret
            exact ⟨rfl, B4.out.trans HB5.out⟩
end Go.Proofs.YteiblfcehlibpaaGreatDoor
namespace Go.Proofs.YteiblfcehlibpaaGreatDoor
open Go.RowKit Go.Shelf
attribute [local go_sem] yUpon strOf_toList
set_option maxRecDepth 100000 in
set_option maxHeartbeats 4000000 in
theorem walkParts_calls (l : List Sp.DE) (A : Option Addr) (cap : Nat) (w : World) (hE : EntsAt w A l) (K : KeysAt w 4) (M : MaxAt w) :
    Calls Tryz.prog 4 #[.slice A l.length cap] w fun e w' => e = .returned (.bool true) ∧ Ext w w' := by
  have KK := Lib.hid K
  have MM := Lib.hid M
  have HE := Lib.hid hE
  have AW := Lib.hid fun W (e : Ext w W) => awake16_calls W (K.ext e) (max_kept M e)
  clear K M hE
  go_enter Tryz.func4, Tryz.ntmps4
  go_wp2_with fail
  refine (great15_calls l A cap 20 w HE.out (by decide)).mono ?_
  rintro e w1 ⟨b, rfl, hgr, hb1⟩
  have B1 := Lib.hid (show Ext w w1 from hb1)
  clear hb1
  cases b with
  | true =>
    go_wp2_with fail
    refine (AW.out w1 B1.out).mono ?_
    rintro e w2 ⟨rfl, hb2⟩
    go_wp2
    go_ret
    exact ⟨rfl, B1.out.trans hb2⟩
  | false =>
    obtain ⟨hl, hp⟩ := hgr rfl
    go_wp2_with fail
    refine (of_calls l A cap w1 (HE.out.ext B1.out) (by omega) (KK.out.ext B1.out) (max_kept MM.out B1.out)).mono ?_
    rintro e w2 ⟨v2, rfl, ht2, hb2⟩
    have T2 := Lib.hid ht2
    have B2 := Lib.hid (B1.out.trans hb2)
    clear ht2 hb2
    have PC := Lib.hid (wparts_calls (Sp.ofT none l).1 v2 (Sp.rof [] l).1 (Sp.both_of l) 4 0 [] w2 rfl (.inl rfl) (by rw [Sp.parts_empty]; rfl) (by decide) T2.out (KK.out.ext B2.out) (max_kept MM.out B2.out))
    obtain ⟨ap, rfl⟩ := tree_ptr T2.out
    clear hp hl
    go_wp2_with fail
    refine PC.out.mono ?_
    rintro e w3 ⟨rfl, hb3⟩
    have B3 := Lib.hid (B2.out.trans hb3)
    clear hb3
    go_wp2_with fail
    refine (AW.out w3 B3.out).mono ?_
    rintro e w4 ⟨rfl, hb4⟩
    go_wp2
    go_ret
    exact ⟨rfl, B3.out.trans hb4⟩
end Go.Proofs.YteiblfcehlibpaaGreatDoor
