/- Walks, plain: Count is the document's; what is listed behind the last path; what is below a directory, in parts. Walks: WalkLists. Two texts that come in as one. -/
import Derived.Test.YteiblfcehlibpaaGreatDoorWD49
import Derived.Test.YteiblfcehlibpaaGreatDoorWD39
import Derived.Test.YteiblfcehlibpaaGreatDoorWD50
namespace Go.Proofs.YteiblfcehlibpaaGreatDoor
open Go.RowKit Go.Shelf
namespace Sp
mutual
theorem entries_leaf : ∀ (t : T), ∀ e ∈ entries t, e.2 ≠ []
  | .mk leaf k, e, h => by
    rw [entries] at h
    rcases List.mem_append.1 h with h | h
    · by_cases hl : leaf = []
      · rw [if_pos hl] at h; cases h
      · rw [if_neg hl] at h
        obtain rfl := List.mem_singleton.1 h
        exact hl
    · exact entriesL_leaf k e h
theorem entriesL_leaf : ∀ (k : List (Bs × T)), ∀ e ∈ entriesL k, e.2 ≠ []
  | [], e, h => by rw [entriesL] at h; cases h
  | (n, t) :: r, e, h => by
    rw [entriesL] at h
    rcases List.mem_append.1 h with h | h
    · obtain ⟨x, hx, rfl⟩ := List.mem_map.1 h
      exact entries_leaf t x hx
    · exact entriesL_leaf r e h
end
theorem Both.rise {o : Option T} {m : List DE} (h : Both o m) : RiseE (toP m) := by rw [h.eq]; exact riseO h.go.1
theorem Both.full {o : Option T} {m : List DE} (h : Both o m) : ∀ e ∈ m, e.2 ≠ [] := fun e he => by
  have h1 : (split e.1, e.2) ∈ entriesO o := by rw [← h.eq]; exact List.mem_map.2 ⟨e, he, rfl⟩
  cases o with
  | none => cases h1
  | some t => exact entries_leaf t _ h1
theorem filt_one (d : Bs) : ∀ m : List DE, RiseE (toP m) → (∀ e ∈ m, e.2 ≠ []) → (m.filter fun e => decide (e.1 = d)).length = if rget m d ≠ [] then 1 else 0
  | [], _, _ => rfl
  | e :: r, hr, hf => by
    have hr' : RiseE (toP r) := (List.pairwise_cons.1 hr).2
    rw [rget]
    by_cases h : e.1 = d
    · rw [if_pos h, if_pos (hf e (List.mem_cons_self ..)), List.filter_cons_of_pos (by simpa using h)]
      have : r.filter (fun e => decide (e.1 = d)) = [] := by
        rw [List.filter_eq_nil_iff]
        intro x hx hx2
        have h1 := (List.pairwise_cons.1 hr).1 (split x.1, x.2) (List.mem_map.2 ⟨x, hx, rfl⟩)
        have h2 : x.1 = d := by simpa using hx2
        simp only [h2, h, cmpP_self] at h1
        cases h1
      rw [this]; rfl
    · rw [if_neg h, List.filter_cons_of_neg (by simpa using h)]
      exact filt_one d r hr' (fun x hx => hf x (List.mem_cons_of_mem _ hx))
theorem count_both {o : Option T} {m : List DE} (h : Both o m) (d : Bs) : rcountS m d = wcountS o d := by
  unfold rcountS wcountS
  rw [h.told, filt_one d m h.rise h.full]
  congr 1
  by_cases hd : d = []
  · subst hd
    rw [rget_bad h.gm.1 check_nil]; simp
  · by_cases hp : parts d = []
    · have hc : check d ≠ 0 := fun h => by
        have h2 := (check_parts h).1
        rw [hp] at h2
        exact split_ne d h2.symm
      rw [rget_bad h.gm.1 hc]
      have : findS (o.getD .nil) d = none := by unfold findS; rw [if_neg hd, if_pos hp]
      rw [nodeS, this]; simp
    · have hdir : Dir d := .inr (check_of_parts hp)
      obtain ⟨f1, f2⟩ := at_both h.eq h.go h.gm d hdir
      have hs : findS (o.getD .nil) d = findT (o.getD .nil) (parts d) := by unfold findS; rw [if_neg hd, if_neg hp]
      rw [nodeS, hs]
      cases hf : findT (o.getD .nil) (parts d) with
      | none =>
        rw [hf] at f1
        rw [get_subs m h.gm.1 d hdir, f1]
        simp [entriesO, get0]
      | some s =>
        obtain ⟨g1, g2, g3⟩ := f2 s hf
        simp only [nodeT_leaf, g2]
        by_cases hl : s.leaf = [] <;> simp [hl, hd]
/-! Lists behind the last path. -/
theorem less_gt {a b : List Bs} (h : cmpP a b = -1) : cmpP b a = 1 := by
  rcases cmpP_range b a with h1 | h1 | h1
  · have := cmpP_trans _ _ _ h h1
    rw [cmpP_self] at this; cases this
  · have := cmpP_zero h1
    subst this
    rw [cmpP_self] at h; cases h
  · exact h1
theorem filter_drop : ∀ (U : List DE), RiseE (toP U) → ∀ n (h : n < U.length), U.filter (fun e => decide (0 < compare e.1 U[n].1)) = U.drop (n + 1)
  | e :: r, hr, 0, h => by
    rw [List.filter_cons_of_neg (by simp [compare, cmpP_self])]
    show r.filter _ = r
    apply List.filter_eq_self.2
    intro x hx
    have h1 := (List.pairwise_cons.1 hr).1 (split x.1, x.2) (List.mem_map.2 ⟨x, hx, rfl⟩)
    have h2 := less_gt h1
    exact decide_eq_true (show (0 : Int) < cmpP (split x.1) (split e.1) by
      have h3 : cmpP (split x.1) (split e.1) = 1 := h2
      omega)
  | e :: r, hr, n + 1, h => by
    have hn : n < r.length := by simpa using h
    have h1 := (List.pairwise_cons.1 hr).1 (split r[n].1, r[n].2) (List.mem_map.2 ⟨r[n], List.getElem_mem hn, rfl⟩)
    simp only at h1
    rw [List.filter_cons_of_neg (by simp [compare, h1])]
    exact filter_drop r (List.pairwise_cons.1 hr).2 n hn
theorem rise_filter {m : List DE} (h : RiseE (toP m)) (p : DE → Bool) : RiseE (toP (m.filter p)) := by
  unfold RiseE toP at *
  rw [List.pairwise_map] at *
  exact h.filter _
/-- The path of the last of so many. -/
def lastD (U : List DE) : Nat → Bs
  | 0 => []
  | n + 1 => (U[n]?.map (·.1)).getD []
theorem lastD_len {U : List DE} (h : ∀ e ∈ U, e.1.length ≤ 1000000) : ∀ n, (lastD U n).length ≤ 1000000
  | 0 => Nat.zero_le _
  | n + 1 => by
    show ((U[n]?.map (·.1)).getD []).length ≤ 1000000
    cases e : U[n]? with
    | none => exact Nat.zero_le _
    | some x => exact h x (List.mem_of_getElem? e)
theorem wlist_at {m : List DE} (hr : RiseE (toP m)) (d : Bs) (n : Nat) (hn : n ≤ (wunder m d).length) (k : Int) : wlist m d (lastD (wunder m d) n) k = ((wunder m d).drop n).take k.toNat := by
  have hb : ∀ a, (m.filter fun e => behind d a e.1) = (wunder m d).filter fun e => decide (0 < compare e.1 a) := by
    intro a
    unfold wunder
    rw [List.filter_filter]
    congr 1
    funext e
    unfold behind
    rw [Bool.and_comm]
  unfold wlist
  congr 1
  cases n with
  | zero =>
    have h0 := wlist_all m d
    unfold wlist at h0
    rw [List.take_of_length_le (by rw [Int.toNat_natCast]; exact List.length_filter_le _ _)] at h0
    exact h0
  | succ n =>
    rw [hb]
    have : lastD (wunder m d) (n + 1) = ((wunder m d)[n]'(by omega)).1 := by
      show (((wunder m d)[n]?).map (·.1)).getD [] = _
      rw [List.getElem?_eq_getElem (by omega)]; rfl
    rw [this]
    exact filter_drop (wunder m d) (rise_filter hr _) n (show n < (wunder m d).length by omega)
theorem rgo_len1 (p : Bs) (vs : List Ver) : ∀ (l : List DE) (b : Bool), (rgo p vs b l).length ≤ l.length + if b = true then 0 else 1
  | [], b => by rw [rgo]; split <;> simp
  | e :: r, b => by
    rw [rgo, List.length_append, List.length_append]
    have h1 : (if e.1 = p then ([] : List DE) else [e]).length ≤ 1 := by split <;> simp
    cases b with
    | true =>
      have := rgo_len1 p vs r true
      rw [if_neg (by simp)]
      simp only [Bool.true_or, List.length_nil, List.length_cons, if_true] at this ⊢
      omega
    | false =>
      by_cases h : compare p e.1 ≤ 0
      · have := rgo_len1 p vs r true
        rw [if_pos ⟨rfl, h⟩]
        simp only [h, decide_true, Bool.false_or, List.length_nil, List.length_cons, if_true] at this ⊢
        simp
        omega
      · have := rgo_len1 p vs r false
        rw [if_neg (fun hh => h hh.2)]
        simp only [h, decide_false, Bool.false_or, List.length_nil, List.length_cons] at this ⊢
        simp at this ⊢
        omega
theorem rset_len (m : List DE) (p : Bs) (l : List Ver) : (rset m p l).length ≤ m.length + 1 := by
  have := rgo_len1 p l m (decide (l = []))
  unfold rset
  split at this <;> omega
theorem rsetS_len (m : List DE) (p : Bs) (l : List Ver) : (rsetS m p l).1.length ≤ m.length + 1 := by
  unfold rsetS
  split
  · simp
  · split
    · simp
    · split
      · simp
      · exact rset_len m p l
theorem rof_len : ∀ (l m : List DE), (rof m l).1.length ≤ m.length + l.length
  | [], m => Nat.le_refl _
  | e :: r, m => by
    rw [rof]
    split
    · simp
    · have h1 := rof_len r (rsetS m e.1 e.2).1
      have h2 := rsetS_len m e.1 e.2
      rw [List.length_cons]; omega
/-! What is below a directory, in parts. -/
def lessW (a b : Bs) : Prop := cmpP [a] [b] = -1
theorem lessW_trans {a b c : Bs} (h : lessW a b) (h' : lessW b c) : lessW a c := cmpP_trans _ _ _ h h'
theorem lessW_irr (a : Bs) : ¬ lessW a a := fun h => by unfold lessW at h; rw [cmpP_self] at h; cases h
theorem dd_less : ∀ (l : List Bs) (x : Bs), (x :: l).Pairwise (fun a b => a = b ∨ lessW a b) → (∀ y ∈ dd (some x) l, lessW x y) ∧ (dd (some x) l).Pairwise lessW
  | [], x, _ => ⟨(fun y h => by rw [dd] at h; cases h), List.Pairwise.nil⟩
  | y :: r, x, h => by
    obtain ⟨h1, h2⟩ := List.pairwise_cons.1 h
    rw [dd]
    by_cases hxy : some x = some y
    · obtain rfl : x = y := Option.some.inj hxy
      rw [if_pos rfl]
      exact dd_less r x h2
    · rw [if_neg hxy]
      have hl : lessW x y := (h1 y (List.mem_cons_self ..)).resolve_left fun e => hxy (by rw [e])
      obtain ⟨i1, i2⟩ := dd_less r y h2
      refine ⟨fun z hz => ?_, List.pairwise_cons.2 ⟨i1, i2⟩⟩
      rcases List.mem_cons.1 hz with rfl | hz
      · exact hl
      · exact lessW_trans hl (i1 z hz)
theorem ddf_less {l : List Bs} (h : l.Pairwise (fun a b => a = b ∨ lessW a b)) : (ddf l).Pairwise lessW := by
  rw [← dd_ddf]
  cases l with
  | nil => exact List.Pairwise.nil
  | cons x r =>
    obtain ⟨i1, i2⟩ := dd_less r x h
    exact List.pairwise_cons.2 ⟨i1, i2⟩
theorem dd_mem : ∀ (l : List Bs) (p : Option Bs) (x : Bs), x ∈ l → x ∈ dd p l ∨ p = some x
  | y :: r, p, x, h => by
    rw [dd]
    by_cases hp : p = some y
    · rw [if_pos hp]
      rcases List.mem_cons.1 h with rfl | h
      · exact .inr hp
      · exact dd_mem r p x h
    · rw [if_neg hp]
      rcases List.mem_cons.1 h with rfl | h
      · exact .inl (List.mem_cons_self ..)
      · rcases dd_mem r (some y) x h with h | h
        · exact .inl (List.mem_cons_of_mem _ h)
        · obtain rfl := Option.some.inj h
          exact .inl (List.mem_cons_self ..)
theorem dd_sub : ∀ (l : List Bs) (p : Option Bs) (x : Bs), x ∈ dd p l → x ∈ l
  | y :: r, p, x, h => by
    rw [dd] at h
    split at h
    · exact List.mem_cons_of_mem _ (dd_sub r p x h)
    · rcases List.mem_cons.1 h with rfl | h
      · exact List.mem_cons_self ..
      · exact List.mem_cons_of_mem _ (dd_sub r (some y) x h)
  | [], p, x, h => by rw [dd] at h; cases h
theorem sum_one (x : Bs) : ∀ (L : List Bs), L.Pairwise lessW → (L.map fun s => if s = x then 1 else 0).sum = if x ∈ L then 1 else 0
  | [], _ => rfl
  | s :: r, h => by
    obtain ⟨h1, h2⟩ := List.pairwise_cons.1 h
    rw [List.map_cons, List.sum_cons, sum_one x r h2]
    by_cases hs : s = x
    · subst hs
      have : s ∉ r := fun hh => lessW_irr s (h1 s hh)
      simp [this]
    · have hs' : ¬ x = s := fun e => hs e.symm
      simp [hs, hs']
theorem sum_counts (L : List Bs) (hL : L.Pairwise lessW) : ∀ (N : List Bs), (∀ x ∈ N, x ∈ L) → (L.map fun s => (N.filter fun y => decide (y = s)).length).sum = N.length
  | [], _ => by
    clear hL
    induction L with
    | nil => rfl
    | cons a r ih => simpa using ih
  | x :: r, h => by
    have ih := sum_counts L hL r fun y hy => h y (List.mem_cons_of_mem _ hy)
    have h1 := sum_one x L hL
    rw [if_pos (h x (List.mem_cons_self ..))] at h1
    have h2 : ∀ M : List Bs, (M.map fun s => ((x :: r).filter fun y => decide (y = s)).length).sum = (M.map fun s => if s = x then 1 else 0).sum + (M.map fun s => (r.filter fun y => decide (y = s)).length).sum := by
      intro M
      induction M with
      | nil => rfl
      | cons s M ihM =>
        rw [List.map_cons, List.sum_cons, List.map_cons, List.sum_cons, List.map_cons, List.sum_cons, ihM]
        by_cases hs : s = x
        · subst hs
          rw [List.filter_cons_of_pos (by simp)]
          simp
          omega
        · have hs' : ¬ x = s := fun e => hs e.symm
          rw [List.filter_cons_of_neg (by simpa using hs')]
          simp [hs]
          omega
    rw [h2, h1, ih, List.length_cons]; omega
theorem under_parts {p d : Bs} (h : under p d = true) : parts p ≠ [] ∧ (d = [] ∨ parts d ≠ []) ∧ (parts d).length < (parts p).length ∧ (parts p).take (parts d).length = parts d := by
  unfold under at h
  simpa [and_assoc] using h
theorem under_of {p d : Bs} (h : parts p ≠ [] ∧ (d = [] ∨ parts d ≠ []) ∧ (parts d).length < (parts p).length ∧ (parts p).take (parts d).length = parts d) : under p d = true := by
  unfold under
  simpa [and_assoc] using h
theorem cmpP_app : ∀ (D a b : List Bs), cmpP (D ++ a) (D ++ b) = cmpP a b
  | [], _, _ => rfl
  | x :: D, a, b => by
    rw [List.cons_append, List.cons_append, cmpP, if_pos rfl]
    exact cmpP_app D a b
theorem cmpP_head {x y : Bs} {a b : List Bs} (h : cmpP (x :: a) (y :: b) = -1) : x = y ∨ lessW x y := by
  rw [cmpP] at h
  by_cases e : x = y
  · exact .inl e
  · rw [if_neg e] at h
    right
    unfold lessW
    rw [cmpP, if_neg e]
    exact h
theorem split_at {α : Type} (l : List α) (n : Nat) (d : α) (h : n < l.length) : l = l.take n ++ l.getD n d :: l.drop (n + 1) := by
  rw [List.getD_eq_getElem?_getD, List.getElem?_eq_getElem h, Option.getD_some, List.getElem_cons_drop, List.take_append_drop]
theorem dnames_sorted {m : List DE} (hr : RiseE (toP m)) (hm : Paths m) (d : Bs) : (dnames (parts d).length (wunder m d)).Pairwise fun a b => a = b ∨ lessW a b := by
  unfold dnames
  rw [List.pairwise_flatMap]
  refine ⟨fun e _ => by split <;> simp, ?_⟩
  have h1 : (wunder m d).Pairwise fun a b => cmpP (split a.1) (split b.1) = -1 := by
    have := rise_filter hr fun e => under e.1 d
    unfold RiseE toP at this
    rw [List.pairwise_map] at this
    exact this
  refine List.Pairwise.imp_of_mem ?_ h1
  intro a b ha hb hab x hx y hy
  obtain ⟨am, au⟩ := List.mem_filter.1 ha
  obtain ⟨bm, bu⟩ := List.mem_filter.1 hb
  have au' := under_parts au
  have bu' := under_parts bu
  rw [← (check_parts (hm a am)).1, ← (check_parts (hm b bm)).1] at hab
  rw [split_at (parts a.1) _ [] au'.2.2.1, split_at (parts b.1) _ [] bu'.2.2.1, au'.2.2.2, bu'.2.2.2, cmpP_app] at hab
  have := cmpP_head hab
  split at hx
  · split at hy
    · obtain rfl := List.mem_singleton.1 hx
      obtain rfl := List.mem_singleton.1 hy
      exact this
    · cases hy
  · cases hx
theorem dirsS_mem {m : List DE} {d s : Bs} : s ∈ dirsS m d ↔ ∃ e ∈ wunder m d, (parts d).length + 1 < (parts e.1).length ∧ (parts e.1).getD (parts d).length [] = s := by
  unfold dirsS
  rw [← dd_ddf]
  constructor
  · intro h
    have h1 := dd_sub _ _ _ h
    unfold dnames at h1
    obtain ⟨e, he, hx⟩ := List.mem_flatMap.1 h1
    split at hx
    · rename_i hl
      exact ⟨e, he, hl, (List.mem_singleton.1 hx).symm⟩
    · cases hx
  · rintro ⟨e, he, hl, rfl⟩
    have : (parts e.1).getD (parts d).length [] ∈ dnames (parts d).length (wunder m d) := by
      unfold dnames
      refine List.mem_flatMap.2 ⟨e, he, ?_⟩
      rw [if_pos hl]
      exact List.mem_singleton.2 rfl
    exact (dd_mem _ none _ this).resolve_right (by simp)
/-- A directory right below another one. -/
theorem dirs_down {m : List DE} (hm : Paths m) {d : Bs} (hd : Dir d) {s : Bs} (hs : s ∈ dirsS m d) : Dir (down d s) ∧ parts (down d s) = parts d ++ [s] ∧ (parts d).length + 1 < 4 ∧ wunder m (down d s) ≠ [] := by
  obtain ⟨e, he, hl, hg⟩ := dirsS_mem.1 hs
  obtain ⟨em, eu⟩ := List.mem_filter.1 he
  have eu' := under_parts eu
  have hc := check_parts (hm e em)
  have hsp : split e.1 = (parts d ++ [s]) ++ (parts e.1).drop ((parts d).length + 1) := by
    rw [← hc.1]
    have := split_at (parts e.1) _ [] eu'.2.2.1
    rw [eu'.2.2.2, hg] at this
    rw [List.append_assoc]
    exact this
  have hp := check_prefix (hm e em) hsp (by simp)
  have hdn := down_is hd s
  rw [← hdn] at hp
  refine ⟨.inr hp.1, hp.2, by rw [hc.1] at hl; omega, ?_⟩
  intro hnil
  have : e ∈ wunder m (down d s) := by
    refine List.mem_filter.2 ⟨em, under_of ⟨eu'.1, .inr (by rw [hp.2]; simp), ?_, ?_⟩⟩
    · rw [hp.2, List.length_append]; exact hl
    · rw [hp.2, hc.1, hsp, List.take_left]
  rw [hnil] at this
  cases this
theorem wunder_down {m : List DE} (hm : Paths m) {d : Bs} (hd : Dir d) {s : Bs} (hs : s ∈ dirsS m d) : (wunder m (down d s)).length = ((dnames (parts d).length (wunder m d)).filter fun y => decide (y = s)).length := by
  obtain ⟨_, hp, _, _⟩ := dirs_down hm hd hs
  have hdd : d = [] ∨ parts d ≠ [] := by
    have := dir_parts hd
    simpa using this
  have key : ∀ l : List DE, (l.filter fun e => under e.1 (down d s)).length = ((dnames (parts d).length (l.filter fun e => under e.1 d)).filter fun y => decide (y = s)).length := by
    intro l
    induction l with
    | nil => rfl
    | cons e r ih =>
      have hcase : under e.1 (down d s) = (under e.1 d && (decide ((parts d).length + 1 < (parts e.1).length) && decide ((parts e.1).getD (parts d).length [] = s))) := by
        rw [Bool.eq_iff_iff]
        simp only [Bool.and_eq_true, decide_eq_true_eq]
        constructor
        · intro h
          have h' := under_parts h
          rw [hp, List.length_append, List.length_cons, List.length_nil] at h'
          obtain ⟨h1, h2, h3, h4⟩ := h'
          have h5 := split_at (parts e.1) (parts d).length [] (by omega)
          have h6 : (parts e.1).take ((parts d).length + (0 + 1)) = (parts e.1).take (parts d).length ++ [(parts e.1).getD (parts d).length []] := by
            rw [Nat.zero_add, List.take_succ_eq_append_getElem (by omega), List.getD_eq_getElem?_getD, List.getElem?_eq_getElem (by omega), Option.getD_some]
          rw [h6] at h4
          have h7 := List.append_inj' h4 rfl
          refine ⟨under_of ⟨h1, hdd, by omega, h7.1⟩, by omega, ?_⟩
          simpa using h7.2
        · rintro ⟨h, h2, h3⟩
          have h' := under_parts h
          refine under_of ⟨h'.1, .inr (by rw [hp]; simp), ?_, ?_⟩
          · rw [hp, List.length_append]; exact h2
          · rw [hp, List.length_append, List.length_cons, List.length_nil, Nat.zero_add, List.take_succ_eq_append_getElem (by omega), h'.2.2.2]
            rw [List.getD_eq_getElem?_getD, List.getElem?_eq_getElem (by omega), Option.getD_some] at h3
            rw [h3]
      by_cases hu : under e.1 d = true
      · rw [List.filter_cons_of_pos (p := fun e : DE => under e.1 d) hu]
        have e1 : dnames (parts d).length (e :: r.filter fun e => under e.1 d) = (if (parts d).length + 1 < (parts e.1).length then [(parts e.1).getD (parts d).length []] else []) ++ dnames (parts d).length (r.filter fun e => under e.1 d) := by unfold dnames; rw [List.flatMap_cons]
        rw [e1, List.filter_append, List.length_append, ← ih]
        by_cases hl : (parts d).length + 1 < (parts e.1).length
        · rw [if_pos hl]
          by_cases hg : (parts e.1).getD (parts d).length [] = s
          · rw [List.filter_cons_of_pos (by rw [hcase, hu]; simp only [hl, hg]; rfl), List.length_cons, List.filter_cons_of_pos (by simpa using hg)]
            simp; omega
          · rw [List.filter_cons_of_neg (by rw [hcase, hu]; simp only [hg, decide_false, Bool.and_false]; simp), List.filter_cons_of_neg (by simpa using hg)]
            simp
        · rw [if_neg hl, List.filter_cons_of_neg (by rw [hcase]; simp only [hl, decide_false, Bool.false_and, Bool.and_false]; simp)]
          simp
      · rw [List.filter_cons_of_neg (p := fun e : DE => under e.1 d) hu, ← ih, List.filter_cons_of_neg (by rw [hcase]; simp only [Bool.not_eq_true] at hu; rw [hu]; simp)]
  exact key m
/-- So many paths stand right below a directory. -/
def here (n : Nat) (l : List DE) : Nat := (l.filter fun e => decide ((parts e.1).length = n + 1)).length
theorem here_names (m : List DE) (d : Bs) : here (parts d).length (wunder m d) + (dnames (parts d).length (wunder m d)).length = (wunder m d).length := by
  have key : ∀ l : List DE, (∀ e ∈ l, (parts d).length < (parts e.1).length) → here (parts d).length l + (dnames (parts d).length l).length = l.length := by
    intro l
    induction l with
    | nil => intro _; rfl
    | cons e r ih =>
      intro h
      have ih := ih fun x hx => h x (List.mem_cons_of_mem _ hx)
      have h1 := h e (List.mem_cons_self ..)
      have e1 : dnames (parts d).length (e :: r) = (if (parts d).length + 1 < (parts e.1).length then [(parts e.1).getD (parts d).length []] else []) ++ dnames (parts d).length r := by unfold dnames; rw [List.flatMap_cons]
      rw [e1, List.length_append]
      unfold here at ih ⊢
      by_cases hl : (parts d).length + 1 < (parts e.1).length
      · rw [if_pos hl, List.filter_cons_of_neg (by simp; omega), List.length_cons, List.length_cons, List.length_nil]; omega
      · rw [if_neg hl, List.filter_cons_of_pos (by simp; omega), List.length_cons, List.length_cons, List.length_nil]; omega
  exact key _ fun e he => (under_parts (List.mem_filter.1 he).2).2.2.1
/-- What is below a directory is what is right below it, and what is below its directories. -/
theorem parts_sum {m : List DE} (hr : RiseE (toP m)) (hm : Paths m) {d : Bs} (hd : Dir d) : here (parts d).length (wunder m d) + ((dirsS m d).map fun s => (wunder m (down d s)).length).sum = (wunder m d).length := by
  have h1 : (dirsS m d).map (fun s => (wunder m (down d s)).length) = (dirsS m d).map fun s => ((dnames (parts d).length (wunder m d)).filter fun y => decide (y = s)).length :=
    List.map_congr_left fun s hs => wunder_down hm hd hs
  rw [h1, show dirsS m d = ddf (dnames (parts d).length (wunder m d)) from rfl, sum_counts _ (ddf_less (dnames_sorted hr hm d)) _ fun x hx => ?_]
  · exact here_names m d
  · rw [← dd_ddf]
    exact (dd_mem _ none _ hx).resolve_right (by simp)
end Sp
end Go.Proofs.YteiblfcehlibpaaGreatDoor
namespace Go.Proofs.YteiblfcehlibpaaGreatDoor
open Go.RowKit Go.Shelf
attribute [local go_sem] yUpon strOf_toList
set_option maxRecDepth 100000 in
set_option maxHeartbeats 4000000 in
theorem walkLists_calls (l : List Sp.DE) (A : Option Addr) (cap : Nat) (d a : Sp.Bs) (most : Int) (w : World) (hE : EntsAt w A l) (K : KeysAt w 4) (M : MaxAt w) :
    Calls Tryz.prog 10 #[.slice A l.length cap, .agg #[.string (strOf d), .string (strOf a)], .int .i64 most] w fun e w' => e = .returned (.bool true) ∧ Ext w w' := by
  have KK := Lib.hid K
  have MM := Lib.hid M
  have HE := Lib.hid hE
  have AW := Lib.hid fun W (e : Ext w W) => awake16_calls W (K.ext e) (max_kept M e)
  clear K M hE
  go_enter Tryz.func10, Tryz.ntmps10
  go_upto_region 2 with fail
  obtain ⟨w1, hw1⟩ : ∃ w1, w1 = w.alloc (.cells #[.string (strOf d), .string (strOf a)] 66) := ⟨_, rfl⟩
  have X1 := Lib.hid (show isBlk w1 w.heap.size 66 #[.string (strOf d), .string (strOf a)] by rw [hw1]; exact box_at w _ _)
  have E1 := Lib.hid (show Ext w w1 by rw [hw1]; exact Ext.alloc _ _)
  rw [← hw1]
  clear hw1
  refine wp_region_det (fun W => Ext w1 W) (by kernel_rfl) (by kernel_rfl) (Below.refl _ _).drew ?_
  repeat (first
    | (refine det_step (fun K hK => ?_)
       apply Exists.intro
       refine ⟨Or.inl ⟨rfl, fun W hS => ?_⟩, ?_⟩
       · have hz : Ext w1 W := hS; have z := X1.out.below hz; have f0 := (z.cell 0).trans rfl; have f1 := (z.cell 1).trans rfl
         go_simp
         first
         | exact rfl
         | exact ⟨rfl, hS⟩
         | (fail)
       go_simp
       refine hK _ ?_
       clear hK K)
    | (refine det_step (fun K hK => ?_); refine det_no' rfl ?_; go_simp; refine hK _ ?_; clear hK K))
  refine det_nil ?_
  intro w2 hS
  replace hS : Ext w1 w2 := hS
  have E2 := Lib.hid (E1.out.trans hS)
  clear hS X1 E1
  go_wp2_with fail
  refine (great15_calls l A cap 20 w2 (HE.out.ext E2.out) (by decide)).mono ?_
  rintro e w3 ⟨b, rfl, hgr, hb3⟩
  have B1 := Lib.hid (show Ext w w3 from E2.out.trans hb3)
  clear hb3
  cases b with
  | true =>
    go_wp2_with fail
    refine (AW.out w3 B1.out).mono ?_
    rintro e w4 ⟨rfl, hb4⟩
    go_wp2
    go_ret
    exact ⟨rfl, B1.out.trans hb4⟩
  | false =>
    obtain ⟨hl, hp⟩ := hgr rfl
    by_cases hd : 200 < (strOf d).size
    · have c1 : (200 : Int) < ((strOf d).size : Int) := by omega
      go_wp2_with fail
      refine (AW.out w3 B1.out).mono ?_
      rintro e w4 ⟨rfl, hb4⟩
      go_wp2
      go_ret
      exact ⟨rfl, B1.out.trans hb4⟩
    · have c1 : ¬ (200 : Int) < ((strOf d).size : Int) := by omega
      have DL := Lib.hid (show d.length ≤ 1000000 by rw [strOf_size] at hd; omega)
      by_cases ha : 200 < (strOf a).size
      · have c2 : (200 : Int) < ((strOf a).size : Int) := by omega
        go_wp2_with fail
        refine (AW.out w3 B1.out).mono ?_
        rintro e w4 ⟨rfl, hb4⟩
        go_wp2
        go_ret
        exact ⟨rfl, B1.out.trans hb4⟩
      · have c2 : ¬ (200 : Int) < ((strOf a).size : Int) := by omega
        have AL := Lib.hid (show a.length ≤ 1000000 by rw [strOf_size] at ha; omega)
        clear hd ha
        go_wp2_with fail
        refine (of_calls l A cap w3 (HE.out.ext B1.out) (by omega) (KK.out.ext B1.out) (max_kept MM.out B1.out)).mono ?_
        rintro e w4 ⟨v2, rfl, ht2, hb2⟩
        have T2 := Lib.hid ht2
        have B2 := Lib.hid (B1.out.trans hb2)
        clear ht2 hb2
        go_wp2_with fail
        refine (rof_calls l A cap w4 (HE.out.ext B2.out) (by omega) (fun e he => Nat.le_trans (hp e he) (by decide))).mono ?_
        rintro e w5 ⟨B3, c3, rfl, he3, hb3⟩
        have E3 := Lib.hid he3
        have T3 := Lib.hid (T2.out.ext hb3)
        have B3' := Lib.hid (B2.out.trans hb3)
        clear he3 hb3
        have BO := Lib.hid (Sp.both_of l)
        obtain ⟨o, ho⟩ : ∃ o, o = (Sp.ofT none l).1 := ⟨_, rfl⟩
        obtain ⟨m, hm⟩ : ∃ m, m = (Sp.rof [] l).1 := ⟨_, rfl⟩
        rw [← ho] at T3 BO
        rw [← hm] at E3 BO ⊢
        clear ho hm T2
        have TE := Lib.hid BO.out.told
        have UC := Lib.hid (wunder_calls o v2 d w5 T3.out BO.out.go BO.out.short BO.out.len BO.out.many (KK.out.ext B3'.out) (max_kept MM.out B3'.out))
        have RU := Lib.hid fun W (e : Ext w5 W) => rwunder_calls m B3 c3 d W (E3.out.ext e) BO.out.mmany BO.out.mlen DL.out
        have WL := Lib.hid fun W (e : Ext w5 W) => wlist_calls o v2 d a most W AL.out (T3.out.ext e) BO.out.go BO.out.short BO.out.len BO.out.many (KK.out.ext (B3'.out.trans e)) (max_kept MM.out (B3'.out.trans e))
        have RL := Lib.hid fun W (e : Ext w5 W) => rlist_calls m B3 c3 d a most W (E3.out.ext e) BO.out.mmany BO.out.mlen DL.out AL.out
        have WC := Lib.hid fun W (e : Ext w5 W) => wcount_calls o v2 d W (T3.out.ext e) BO.out.go BO.out.short BO.out.len BO.out.many (KK.out.ext (B3'.out.trans e)) (max_kept MM.out (B3'.out.trans e))
        have RC := Lib.hid fun W (e : Ext w5 W) => rcount_calls m B3 c3 d W (E3.out.ext e) BO.out.mmany BO.out.mlen DL.out
        rw [TE.out] at UC WL
        rw [Sp.count_both BO.out] at RC
        have SC := Lib.hid fun (q : List Sp.DE) A B c c' W (h : EntsAt W A q) (h' : EntsAt W B q) (hq : q.length ≤ 1000000) (hs : ∀ e ∈ q, e.2.length ≤ 1000000) => show Calls Tryz.prog 29 #[.slice A q.length c, .slice B q.length c'] W fun e w' => e = .returned (.bool true) ∧ Ext W w' from by
          have := esame_calls q q A B c c' W h h' hq hs
          rwa [decide_eq_true (rfl : q = q)] at this
        have LU := Lib.hid (show (Sp.wunder m d).length ≤ 1000000 from Nat.le_trans (Sp.wunder_len m d) (Nat.le_trans BO.out.mmany (by decide)))
        have LL := Lib.hid (show (Sp.wlist m d a most).length ≤ 1000000 from Nat.le_trans (Sp.wlist_len m d a most) (Nat.le_trans BO.out.mmany (by decide)))
        have FU := Lib.hid (show ∀ e ∈ Sp.wunder m d, e.2.length ≤ 1000000 from fun e he => BO.out.leaf e (List.mem_filter.1 he).1)
        have FL := Lib.hid (show ∀ e ∈ Sp.wlist m d a most, e.2.length ≤ 1000000 from fun e he => BO.out.leaf e (List.mem_filter.1 (List.mem_of_mem_take he)).1)
        obtain ⟨U, hU⟩ : ∃ U, U = Sp.wunder m d := ⟨_, rfl⟩
        rw [← hU] at UC RU LU FU
        obtain ⟨Q, hQ⟩ : ∃ Q, Q = Sp.wlist m d a most := ⟨_, rfl⟩
        rw [← hQ] at WL RL LL FL
        obtain ⟨n, hn⟩ : ∃ n, n = Sp.wcountS o d := ⟨_, rfl⟩
        rw [← hn] at WC RC
        obtain ⟨ap, rfl⟩ := tree_ptr T3.out
        clear hp hU hQ hn
        go_wp2_with fail
        refine UC.out.mono ?_
        rintro e w6 ⟨v6, rfl, hO6, hb6⟩
        obtain ⟨A6, c6, rfl, hE6⟩ := hO6.read
        have E6 := Lib.hid hE6
        have B6 := Lib.hid hb6
        clear hE6 hO6 hb6
        go_wp2_with fail
        refine (RU.out w6 B6.out).mono ?_
        rintro e w7 ⟨A7, c7, rfl, hE7, hb7⟩
        have E7 := Lib.hid hE7
        have E67 := Lib.hid (E6.out.ext hb7)
        have B7 := Lib.hid (B6.out.trans hb7)
        clear hE7 hb7
        go_wp2_with fail
        refine (SC.out U A6 A7 c6 c7 w7 E67.out E7.out LU.out FU.out).mono ?_
        rintro e w8 ⟨rfl, hb8⟩
        have B8 := Lib.hid (B7.out.trans hb8)
        clear hb8
        go_wp2_with fail
        refine (WL.out w8 B8.out).mono ?_
        rintro e w9 ⟨v9, rfl, hO9, hb9⟩
        obtain ⟨A9, c9, rfl, hE9⟩ := hO9.read
        have E9 := Lib.hid hE9
        have B9 := Lib.hid (B8.out.trans hb9)
        clear hE9 hO9 hb9
        go_wp2_with fail
        refine (RL.out w9 B9.out).mono ?_
        rintro e wa ⟨Aa, ca, rfl, hEa, hba⟩
        have Ea := Lib.hid hEa
        have E9a := Lib.hid (E9.out.ext hba)
        have Ba := Lib.hid (B9.out.trans hba)
        clear hEa hba
        go_wp2_with fail
        refine (SC.out Q A9 Aa c9 ca wa E9a.out Ea.out LL.out FL.out).mono ?_
        rintro e wb ⟨rfl, hbb⟩
        have Bb := Lib.hid (Ba.out.trans hbb)
        clear hbb
        go_wp2_with fail
        refine (WC.out wb Bb.out).mono ?_
        rintro e wd ⟨rfl, hbd⟩
        have Bd := Lib.hid (Bb.out.trans hbd)
        clear hbd
        go_wp2_with fail
        refine (RC.out wd Bd.out).mono ?_
        rintro e we ⟨rfl, hbe⟩
        have Be := Lib.hid (Bd.out.trans hbe)
        clear hbe
        go_wp2_with fail
        refine (AW.out we (B3'.out.trans Be.out)).mono ?_
        rintro e wf ⟨rfl, hbf⟩
        go_wp2
        go_ret
        exact ⟨rfl, (B3'.out.trans Be.out).trans hbf⟩
theorem walkLists_bs (l : List Sp.DE) (A : Option Addr) (cap : Nat) (d a : ByteArray) (most : Int) (w : World) (hE : EntsAt w A l) (K : KeysAt w 4) (M : MaxAt w) :
    Calls Tryz.prog 10 #[.slice A l.length cap, .agg #[.string d, .string a], .int .i64 most] w fun e w' => e = .returned (.bool true) ∧ Ext w w' := by
  have := walkLists_calls l A cap d.data.toList a.data.toList most w hE K M
  rwa [strOf_self, strOf_self] at this
end Go.Proofs.YteiblfcehlibpaaGreatDoor
namespace Go.Proofs.YteiblfcehlibpaaGreatDoor
open Go.RowKit Go.ChangeShapes Go.WideShapes Go.Deep
section
variable {H : Type} {enc : TypeId × Value → H} {w : World} {base : Nat} {spare : Nat → Bool} {held : Bool}
set_option maxRecDepth 100000 in
theorem open_pair {P : List MemPlace} {b0 : Nat} {v : Value} {x : DataW H} (hval : Value.okWide Tryz.prog w .any b0 66 v) (h : DataW.Trod enc Tryz.prog w base spare held 66 v x P) : ∃ s t : ByteArray, v = .agg #[.string s, .string t] := by
  obtain ⟨cs, rfl⟩ : ∃ cs, v = .agg cs := by
    simp only [Value.okWide, Tryz.underlying66] at hval
    obtain ⟨cs, h, _⟩ := hval
    exact ⟨cs, h⟩
  obtain ⟨n, hn⟩ := h
  have e0 : (Value.agg cs).cells.toList = cs.toList := rfl
  rw [e0] at hn
  obtain ⟨xs, k, _, _, hlen, hxl, hf⟩ := DataW.trod_array Tryz.underlying66 hn
  have c1 : Tryz.prog.cellsOf 66 = 2 := by kernel_rfl
  have c2 : Tryz.prog.cellsOf 9 = 1 := by kernel_rfl
  rw [c1] at hlen
  have hi : ∀ i (h : i < cs.toList.length), ∃ b : ByteArray, cs.toList[i] = .string b := fun i h => by
    have h5 := hf i (by omega)
    rw [c2, Nat.mul_one, List.drop_eq_getElem_cons h, List.take_succ_cons, List.take_zero, List.getElem?_eq_getElem (by omega)] at h5
    obtain ⟨m, h6, _⟩ := DataW.trod_string Tryz.underlying9 h5
    simp only [List.cons.injEq, and_true] at h6
    exact ⟨m, h6⟩
  obtain ⟨s, hs⟩ := hi 0 (by omega)
  obtain ⟨t, ht⟩ := hi 1 (by omega)
  refine ⟨s, t, ?_⟩
  congr 1
  apply Array.ext'
  show cs.toList = [.string s, .string t]
  match h : cs.toList, hlen with
  | [p, q], _ =>
    simp only [h, List.getElem_cons_zero, List.getElem_cons_succ] at hs ht
    rw [hs, ht]
end
end Go.Proofs.YteiblfcehlibpaaGreatDoor
