/- Walks, plain: Count is the document's; what is listed behind the last path; what is below a directory, in parts. Walks: WalkAll. -/
import Derived.Test.YteiblfcehlibpaaGreatDoorWD49
import Derived.Test.YteiblfcehlibpaaGreatDoorWD39
namespace Go.Proofs.YteiblfcehlibpaaGreatDoor
open Go.RowKit Go.Shelf
namespace Sp
mutual
theorem entries_leaf : ∀ (t : T), ∀ e ∈ entries t, e.2 ≠ []
  | .mk leaf k, e, h => by
    rw [entries] at h
    rcases List.mem_append.1 h with h | h
    · by_cases hl : leaf = []
      · rw [if_pos hl] at h; cases h
      · rw [if_neg hl] at h
        obtain rfl := List.mem_singleton.1 h
        exact hl
    · exact entriesL_leaf k e h
theorem entriesL_leaf : ∀ (k : List (Bs × T)), ∀ e ∈ entriesL k, e.2 ≠ []
  | [], e, h => by rw [entriesL] at h; cases h
  | (n, t) :: r, e, h => by
    rw [entriesL] at h
    rcases List.mem_append.1 h with h | h
    · obtain ⟨x, hx, rfl⟩ := List.mem_map.1 h
      exact entries_leaf t x hx
    · exact entriesL_leaf r e h
end
theorem Both.rise {o : Option T} {m : List DE} (h : Both o m) : RiseE (toP m) := by rw [h.eq]; exact riseO h.go.1
theorem Both.full {o : Option T} {m : List DE} (h : Both o m) : ∀ e ∈ m, e.2 ≠ [] := fun e he => by
  have h1 : (split e.1, e.2) ∈ entriesO o := by rw [← h.eq]; exact List.mem_map.2 ⟨e, he, rfl⟩
  cases o with
  | none => cases h1
  | some t => exact entries_leaf t _ h1
theorem filt_one (d : Bs) : ∀ m : List DE, RiseE (toP m) → (∀ e ∈ m, e.2 ≠ []) → (m.filter fun e => decide (e.1 = d)).length = if rget m d ≠ [] then 1 else 0
  | [], _, _ => rfl
  | e :: r, hr, hf => by
    have hr' : RiseE (toP r) := (List.pairwise_cons.1 hr).2
    rw [rget]
    by_cases h : e.1 = d
    · rw [if_pos h, if_pos (hf e (List.mem_cons_self ..)), List.filter_cons_of_pos (by simpa using h)]
      have : r.filter (fun e => decide (e.1 = d)) = [] := by
        rw [List.filter_eq_nil_iff]
        intro x hx hx2
        have h1 := (List.pairwise_cons.1 hr).1 (split x.1, x.2) (List.mem_map.2 ⟨x, hx, rfl⟩)
        have h2 : x.1 = d := by simpa using hx2
        simp only [h2, h, cmpP_self] at h1
        cases h1
      rw [this]; rfl
    · rw [if_neg h, List.filter_cons_of_neg (by simpa using h)]
      exact filt_one d r hr' (fun x hx => hf x (List.mem_cons_of_mem _ hx))
theorem count_both {o : Option T} {m : List DE} (h : Both o m) (d : Bs) : rcountS m d = wcountS o d := by
  unfold rcountS wcountS
  rw [h.told, filt_one d m h.rise h.full]
  congr 1
  by_cases hd : d = []
  · subst hd
    rw [rget_bad h.gm.1 check_nil]; simp
  · by_cases hp : parts d = []
    · have hc : check d ≠ 0 := fun h => by
        have h2 := (check_parts h).1
        rw [hp] at h2
        exact split_ne d h2.symm
      rw [rget_bad h.gm.1 hc]
      have : findS (o.getD .nil) d = none := by unfold findS; rw [if_neg hd, if_pos hp]
      rw [nodeS, this]; simp
    · have hdir : Dir d := .inr (check_of_parts hp)
      obtain ⟨f1, f2⟩ := at_both h.eq h.go h.gm d hdir
      have hs : findS (o.getD .nil) d = findT (o.getD .nil) (parts d) := by unfold findS; rw [if_neg hd, if_neg hp]
      rw [nodeS, hs]
      cases hf : findT (o.getD .nil) (parts d) with
      | none =>
        rw [hf] at f1
        rw [get_subs m h.gm.1 d hdir, f1]
        simp [entriesO, get0]
      | some s =>
        obtain ⟨g1, g2, g3⟩ := f2 s hf
        simp only [nodeT_leaf, g2]
        by_cases hl : s.leaf = [] <;> simp [hl, hd]
/-! Lists behind the last path. -/
theorem less_gt {a b : List Bs} (h : cmpP a b = -1) : cmpP b a = 1 := by
  rcases cmpP_range b a with h1 | h1 | h1
  · have := cmpP_trans _ _ _ h h1
    rw [cmpP_self] at this; cases this
  · have := cmpP_zero h1
    subst this
    rw [cmpP_self] at h; cases h
  · exact h1
theorem filter_drop : ∀ (U : List DE), RiseE (toP U) → ∀ n (h : n < U.length), U.filter (fun e => decide (0 < compare e.1 U[n].1)) = U.drop (n + 1)
  | e :: r, hr, 0, h => by
    rw [List.filter_cons_of_neg (by simp [compare, cmpP_self])]
    show r.filter _ = r
    apply List.filter_eq_self.2
    intro x hx
    have h1 := (List.pairwise_cons.1 hr).1 (split x.1, x.2) (List.mem_map.2 ⟨x, hx, rfl⟩)
    have h2 := less_gt h1
    exact decide_eq_true (show (0 : Int) < cmpP (split x.1) (split e.1) by
      have h3 : cmpP (split x.1) (split e.1) = 1 := h2
      omega)
  | e :: r, hr, n + 1, h => by
    have hn : n < r.length := by simpa using h
    have h1 := (List.pairwise_cons.1 hr).1 (split r[n].1, r[n].2) (List.mem_map.2 ⟨r[n], List.getElem_mem hn, rfl⟩)
    simp only at h1
    rw [List.filter_cons_of_neg (by simp [compare, h1])]
    exact filter_drop r (List.pairwise_cons.1 hr).2 n hn
theorem rise_filter {m : List DE} (h : RiseE (toP m)) (p : DE → Bool) : RiseE (toP (m.filter p)) := by
  unfold RiseE toP at *
  rw [List.pairwise_map] at *
  exact h.filter _
/-- The path of the last of so many. -/
def lastD (U : List DE) : Nat → Bs
  | 0 => []
  | n + 1 => (U[n]?.map (·.1)).getD []
theorem lastD_len {U : List DE} (h : ∀ e ∈ U, e.1.length ≤ 1000000) : ∀ n, (lastD U n).length ≤ 1000000
  | 0 => Nat.zero_le _
  | n + 1 => by
    show ((U[n]?.map (·.1)).getD []).length ≤ 1000000
    cases e : U[n]? with
    | none => exact Nat.zero_le _
    | some x => exact h x (List.mem_of_getElem? e)
theorem wlist_at {m : List DE} (hr : RiseE (toP m)) (d : Bs) (n : Nat) (hn : n ≤ (wunder m d).length) (k : Int) : wlist m d (lastD (wunder m d) n) k = ((wunder m d).drop n).take k.toNat := by
  have hb : ∀ a, (m.filter fun e => behind d a e.1) = (wunder m d).filter fun e => decide (0 < compare e.1 a) := by
    intro a
    unfold wunder
    rw [List.filter_filter]
    congr 1
    funext e
    unfold behind
    rw [Bool.and_comm]
  unfold wlist
  congr 1
  cases n with
  | zero =>
    have h0 := wlist_all m d
    unfold wlist at h0
    rw [List.take_of_length_le (by rw [Int.toNat_natCast]; exact List.length_filter_le _ _)] at h0
    exact h0
  | succ n =>
    rw [hb]
    have : lastD (wunder m d) (n + 1) = ((wunder m d)[n]'(by omega)).1 := by
      show (((wunder m d)[n]?).map (·.1)).getD [] = _
      rw [List.getElem?_eq_getElem (by omega)]; rfl
    rw [this]
    exact filter_drop (wunder m d) (rise_filter hr _) n (show n < (wunder m d).length by omega)
theorem rgo_len1 (p : Bs) (vs : List Ver) : ∀ (l : List DE) (b : Bool), (rgo p vs b l).length ≤ l.length + if b = true then 0 else 1
  | [], b => by rw [rgo]; split <;> simp
  | e :: r, b => by
    rw [rgo, List.length_append, List.length_append]
    have h1 : (if e.1 = p then ([] : List DE) else [e]).length ≤ 1 := by split <;> simp
    cases b with
    | true =>
      have := rgo_len1 p vs r true
      rw [if_neg (by simp)]
      simp only [Bool.true_or, List.length_nil, List.length_cons, if_true] at this ⊢
      omega
    | false =>
      by_cases h : compare p e.1 ≤ 0
      · have := rgo_len1 p vs r true
        rw [if_pos ⟨rfl, h⟩]
        simp only [h, decide_true, Bool.false_or, List.length_nil, List.length_cons, if_true] at this ⊢
        simp
        omega
      · have := rgo_len1 p vs r false
        rw [if_neg (fun hh => h hh.2)]
        simp only [h, decide_false, Bool.false_or, List.length_nil, List.length_cons] at this ⊢
        simp at this ⊢
        omega
theorem rset_len (m : List DE) (p : Bs) (l : List Ver) : (rset m p l).length ≤ m.length + 1 := by
  have := rgo_len1 p l m (decide (l = []))
  unfold rset
  split at this <;> omega
theorem rsetS_len (m : List DE) (p : Bs) (l : List Ver) : (rsetS m p l).1.length ≤ m.length + 1 := by
  unfold rsetS
  split
  · simp
  · split
    · simp
    · split
      · simp
      · exact rset_len m p l
theorem rof_len : ∀ (l m : List DE), (rof m l).1.length ≤ m.length + l.length
  | [], m => Nat.le_refl _
  | e :: r, m => by
    rw [rof]
    split
    · simp
    · have h1 := rof_len r (rsetS m e.1 e.2).1
      have h2 := rsetS_len m e.1 e.2
      rw [List.length_cons]; omega
/-! What is below a directory, in parts. -/
def lessW (a b : Bs) : Prop := cmpP [a] [b] = -1
theorem lessW_trans {a b c : Bs} (h : lessW a b) (h' : lessW b c) : lessW a c := cmpP_trans _ _ _ h h'
theorem lessW_irr (a : Bs) : ¬ lessW a a := fun h => by unfold lessW at h; rw [cmpP_self] at h; cases h
theorem dd_less : ∀ (l : List Bs) (x : Bs), (x :: l).Pairwise (fun a b => a = b ∨ lessW a b) → (∀ y ∈ dd (some x) l, lessW x y) ∧ (dd (some x) l).Pairwise lessW
  | [], x, _ => ⟨(fun y h => by rw [dd] at h; cases h), List.Pairwise.nil⟩
  | y :: r, x, h => by
    obtain ⟨h1, h2⟩ := List.pairwise_cons.1 h
    rw [dd]
    by_cases hxy : some x = some y
    · obtain rfl : x = y := Option.some.inj hxy
      rw [if_pos rfl]
      exact dd_less r x h2
    · rw [if_neg hxy]
      have hl : lessW x y := (h1 y (List.mem_cons_self ..)).resolve_left fun e => hxy (by rw [e])
      obtain ⟨i1, i2⟩ := dd_less r y h2
      refine ⟨fun z hz => ?_, List.pairwise_cons.2 ⟨i1, i2⟩⟩
      rcases List.mem_cons.1 hz with rfl | hz
      · exact hl
      · exact lessW_trans hl (i1 z hz)
theorem ddf_less {l : List Bs} (h : l.Pairwise (fun a b => a = b ∨ lessW a b)) : (ddf l).Pairwise lessW := by
  rw [← dd_ddf]
  cases l with
  | nil => exact List.Pairwise.nil
  | cons x r =>
    obtain ⟨i1, i2⟩ := dd_less r x h
    exact List.pairwise_cons.2 ⟨i1, i2⟩
theorem dd_mem : ∀ (l : List Bs) (p : Option Bs) (x : Bs), x ∈ l → x ∈ dd p l ∨ p = some x
  | y :: r, p, x, h => by
    rw [dd]
    by_cases hp : p = some y
    · rw [if_pos hp]
      rcases List.mem_cons.1 h with rfl | h
      · exact .inr hp
      · exact dd_mem r p x h
    · rw [if_neg hp]
      rcases List.mem_cons.1 h with rfl | h
      · exact .inl (List.mem_cons_self ..)
      · rcases dd_mem r (some y) x h with h | h
        · exact .inl (List.mem_cons_of_mem _ h)
        · obtain rfl := Option.some.inj h
          exact .inl (List.mem_cons_self ..)
theorem dd_sub : ∀ (l : List Bs) (p : Option Bs) (x : Bs), x ∈ dd p l → x ∈ l
  | y :: r, p, x, h => by
    rw [dd] at h
    split at h
    · exact List.mem_cons_of_mem _ (dd_sub r p x h)
    · rcases List.mem_cons.1 h with rfl | h
      · exact List.mem_cons_self ..
      · exact List.mem_cons_of_mem _ (dd_sub r (some y) x h)
  | [], p, x, h => by rw [dd] at h; cases h
theorem sum_one (x : Bs) : ∀ (L : List Bs), L.Pairwise lessW → (L.map fun s => if s = x then 1 else 0).sum = if x ∈ L then 1 else 0
  | [], _ => rfl
  | s :: r, h => by
    obtain ⟨h1, h2⟩ := List.pairwise_cons.1 h
    rw [List.map_cons, List.sum_cons, sum_one x r h2]
    by_cases hs : s = x
    · subst hs
      have : s ∉ r := fun hh => lessW_irr s (h1 s hh)
      simp [this]
    · have hs' : ¬ x = s := fun e => hs e.symm
      simp [hs, hs']
theorem sum_counts (L : List Bs) (hL : L.Pairwise lessW) : ∀ (N : List Bs), (∀ x ∈ N, x ∈ L) → (L.map fun s => (N.filter fun y => decide (y = s)).length).sum = N.length
  | [], _ => by
    clear hL
    induction L with
    | nil => rfl
    | cons a r ih => simpa using ih
  | x :: r, h => by
    have ih := sum_counts L hL r fun y hy => h y (List.mem_cons_of_mem _ hy)
    have h1 := sum_one x L hL
    rw [if_pos (h x (List.mem_cons_self ..))] at h1
    have h2 : ∀ M : List Bs, (M.map fun s => ((x :: r).filter fun y => decide (y = s)).length).sum = (M.map fun s => if s = x then 1 else 0).sum + (M.map fun s => (r.filter fun y => decide (y = s)).length).sum := by
      intro M
      induction M with
      | nil => rfl
      | cons s M ihM =>
        rw [List.map_cons, List.sum_cons, List.map_cons, List.sum_cons, List.map_cons, List.sum_cons, ihM]
        by_cases hs : s = x
        · subst hs
          rw [List.filter_cons_of_pos (by simp)]
          simp
          omega
        · have hs' : ¬ x = s := fun e => hs e.symm
          rw [List.filter_cons_of_neg (by simpa using hs')]
          simp [hs]
          omega
    rw [h2, h1, ih, List.length_cons]; omega
theorem under_parts {p d : Bs} (h : under p d = true) : parts p ≠ [] ∧ (d = [] ∨ parts d ≠ []) ∧ (parts d).length < (parts p).length ∧ (parts p).take (parts d).length = parts d := by
  unfold under at h
  simpa [and_assoc] using h
theorem under_of {p d : Bs} (h : parts p ≠ [] ∧ (d = [] ∨ parts d ≠ []) ∧ (parts d).length < (parts p).length ∧ (parts p).take (parts d).length = parts d) : under p d = true := by
  unfold under
  simpa [and_assoc] using h
theorem cmpP_app : ∀ (D a b : List Bs), cmpP (D ++ a) (D ++ b) = cmpP a b
  | [], _, _ => rfl
  | x :: D, a, b => by
    rw [List.cons_append, List.cons_append, cmpP, if_pos rfl]
    exact cmpP_app D a b
theorem cmpP_head {x y : Bs} {a b : List Bs} (h : cmpP (x :: a) (y :: b) = -1) : x = y ∨ lessW x y := by
  rw [cmpP] at h
  by_cases e : x = y
  · exact .inl e
  · rw [if_neg e] at h
    right
    unfold lessW
    rw [cmpP, if_neg e]
    exact h
theorem split_at {α : Type} (l : List α) (n : Nat) (d : α) (h : n < l.length) : l = l.take n ++ l.getD n d :: l.drop (n + 1) := by
  rw [List.getD_eq_getElem?_getD, List.getElem?_eq_getElem h, Option.getD_some, List.getElem_cons_drop, List.take_append_drop]
theorem dnames_sorted {m : List DE} (hr : RiseE (toP m)) (hm : Paths m) (d : Bs) : (dnames (parts d).length (wunder m d)).Pairwise fun a b => a = b ∨ lessW a b := by
  unfold dnames
  rw [List.pairwise_flatMap]
  refine ⟨fun e _ => by split <;> simp, ?_⟩
  have h1 : (wunder m d).Pairwise fun a b => cmpP (split a.1) (split b.1) = -1 := by
    have := rise_filter hr fun e => under e.1 d
    unfold RiseE toP at this
    rw [List.pairwise_map] at this
    exact this
  refine List.Pairwise.imp_of_mem ?_ h1
  intro a b ha hb hab x hx y hy
  obtain ⟨am, au⟩ := List.mem_filter.1 ha
  obtain ⟨bm, bu⟩ := List.mem_filter.1 hb
  have au' := under_parts au
  have bu' := under_parts bu
  rw [← (check_parts (hm a am)).1, ← (check_parts (hm b bm)).1] at hab
  rw [split_at (parts a.1) _ [] au'.2.2.1, split_at (parts b.1) _ [] bu'.2.2.1, au'.2.2.2, bu'.2.2.2, cmpP_app] at hab
  have := cmpP_head hab
  split at hx
  · split at hy
    · obtain rfl := List.mem_singleton.1 hx
      obtain rfl := List.mem_singleton.1 hy
      exact this
    · cases hy
  · cases hx
theorem dirsS_mem {m : List DE} {d s : Bs} : s ∈ dirsS m d ↔ ∃ e ∈ wunder m d, (parts d).length + 1 < (parts e.1).length ∧ (parts e.1).getD (parts d).length [] = s := by
  unfold dirsS
  rw [← dd_ddf]
  constructor
  · intro h
    have h1 := dd_sub _ _ _ h
    unfold dnames at h1
    obtain ⟨e, he, hx⟩ := List.mem_flatMap.1 h1
    split at hx
    · rename_i hl
      exact ⟨e, he, hl, (List.mem_singleton.1 hx).symm⟩
    · cases hx
  · rintro ⟨e, he, hl, rfl⟩
    have : (parts e.1).getD (parts d).length [] ∈ dnames (parts d).length (wunder m d) := by
      unfold dnames
      refine List.mem_flatMap.2 ⟨e, he, ?_⟩
      rw [if_pos hl]
      exact List.mem_singleton.2 rfl
    exact (dd_mem _ none _ this).resolve_right (by simp)
/-- A directory right below another one. -/
theorem dirs_down {m : List DE} (hm : Paths m) {d : Bs} (hd : Dir d) {s : Bs} (hs : s ∈ dirsS m d) : Dir (down d s) ∧ parts (down d s) = parts d ++ [s] ∧ (parts d).length + 1 < 4 ∧ wunder m (down d s) ≠ [] := by
  obtain ⟨e, he, hl, hg⟩ := dirsS_mem.1 hs
  obtain ⟨em, eu⟩ := List.mem_filter.1 he
  have eu' := under_parts eu
  have hc := check_parts (hm e em)
  have hsp : split e.1 = (parts d ++ [s]) ++ (parts e.1).drop ((parts d).length + 1) := by
    rw [← hc.1]
    have := split_at (parts e.1) _ [] eu'.2.2.1
    rw [eu'.2.2.2, hg] at this
    rw [List.append_assoc]
    exact this
  have hp := check_prefix (hm e em) hsp (by simp)
  have hdn := down_is hd s
  rw [← hdn] at hp
  refine ⟨.inr hp.1, hp.2, by rw [hc.1] at hl; omega, ?_⟩
  intro hnil
  have : e ∈ wunder m (down d s) := by
    refine List.mem_filter.2 ⟨em, under_of ⟨eu'.1, .inr (by rw [hp.2]; simp), ?_, ?_⟩⟩
    · rw [hp.2, List.length_append]; exact hl
    · rw [hp.2, hc.1, hsp, List.take_left]
  rw [hnil] at this
  cases this
theorem wunder_down {m : List DE} (hm : Paths m) {d : Bs} (hd : Dir d) {s : Bs} (hs : s ∈ dirsS m d) : (wunder m (down d s)).length = ((dnames (parts d).length (wunder m d)).filter fun y => decide (y = s)).length := by
  obtain ⟨_, hp, _, _⟩ := dirs_down hm hd hs
  have hdd : d = [] ∨ parts d ≠ [] := by
    have := dir_parts hd
    simpa using this
  have key : ∀ l : List DE, (l.filter fun e => under e.1 (down d s)).length = ((dnames (parts d).length (l.filter fun e => under e.1 d)).filter fun y => decide (y = s)).length := by
    intro l
    induction l with
    | nil => rfl
    | cons e r ih =>
      have hcase : under e.1 (down d s) = (under e.1 d && (decide ((parts d).length + 1 < (parts e.1).length) && decide ((parts e.1).getD (parts d).length [] = s))) := by
        rw [Bool.eq_iff_iff]
        simp only [Bool.and_eq_true, decide_eq_true_eq]
        constructor
        · intro h
          have h' := under_parts h
          rw [hp, List.length_append, List.length_cons, List.length_nil] at h'
          obtain ⟨h1, h2, h3, h4⟩ := h'
          have h5 := split_at (parts e.1) (parts d).length [] (by omega)
          have h6 : (parts e.1).take ((parts d).length + (0 + 1)) = (parts e.1).take (parts d).length ++ [(parts e.1).getD (parts d).length []] := by
            rw [Nat.zero_add, List.take_succ_eq_append_getElem (by omega), List.getD_eq_getElem?_getD, List.getElem?_eq_getElem (by omega), Option.getD_some]
          rw [h6] at h4
          have h7 := List.append_inj' h4 rfl
          refine ⟨under_of ⟨h1, hdd, by omega, h7.1⟩, by omega, ?_⟩
          simpa using h7.2
        · rintro ⟨h, h2, h3⟩
          have h' := under_parts h
          refine under_of ⟨h'.1, .inr (by rw [hp]; simp), ?_, ?_⟩
          · rw [hp, List.length_append]; exact h2
          · rw [hp, List.length_append, List.length_cons, List.length_nil, Nat.zero_add, List.take_succ_eq_append_getElem (by omega), h'.2.2.2]
            rw [List.getD_eq_getElem?_getD, List.getElem?_eq_getElem (by omega), Option.getD_some] at h3
            rw [h3]
      by_cases hu : under e.1 d = true
      · rw [List.filter_cons_of_pos (p := fun e : DE => under e.1 d) hu]
        have e1 : dnames (parts d).length (e :: r.filter fun e => under e.1 d) = (if (parts d).length + 1 < (parts e.1).length then [(parts e.1).getD (parts d).length []] else []) ++ dnames (parts d).length (r.filter fun e => under e.1 d) := by unfold dnames; rw [List.flatMap_cons]
        rw [e1, List.filter_append, List.length_append, ← ih]
        by_cases hl : (parts d).length + 1 < (parts e.1).length
        · rw [if_pos hl]
          by_cases hg : (parts e.1).getD (parts d).length [] = s
          · rw [List.filter_cons_of_pos (by rw [hcase, hu]; simp only [hl, hg]; rfl), List.length_cons, List.filter_cons_of_pos (by simpa using hg)]
            simp; omega
          · rw [List.filter_cons_of_neg (by rw [hcase, hu]; simp only [hg, decide_false, Bool.and_false]; simp), List.filter_cons_of_neg (by simpa using hg)]
            simp
        · rw [if_neg hl, List.filter_cons_of_neg (by rw [hcase]; simp only [hl, decide_false, Bool.false_and, Bool.and_false]; simp)]
          simp
      · rw [List.filter_cons_of_neg (p := fun e : DE => under e.1 d) hu, ← ih, List.filter_cons_of_neg (by rw [hcase]; simp only [Bool.not_eq_true] at hu; rw [hu]; simp)]
  exact key m
/-- So many paths stand right below a directory. -/
def here (n : Nat) (l : List DE) : Nat := (l.filter fun e => decide ((parts e.1).length = n + 1)).length
theorem here_names (m : List DE) (d : Bs) : here (parts d).length (wunder m d) + (dnames (parts d).length (wunder m d)).length = (wunder m d).length := by
  have key : ∀ l : List DE, (∀ e ∈ l, (parts d).length < (parts e.1).length) → here (parts d).length l + (dnames (parts d).length l).length = l.length := by
    intro l
    induction l with
    | nil => intro _; rfl
    | cons e r ih =>
      intro h
      have ih := ih fun x hx => h x (List.mem_cons_of_mem _ hx)
      have h1 := h e (List.mem_cons_self ..)
      have e1 : dnames (parts d).length (e :: r) = (if (parts d).length + 1 < (parts e.1).length then [(parts e.1).getD (parts d).length []] else []) ++ dnames (parts d).length r := by unfold dnames; rw [List.flatMap_cons]
      rw [e1, List.length_append]
      unfold here at ih ⊢
      by_cases hl : (parts d).length + 1 < (parts e.1).length
      · rw [if_pos hl, List.filter_cons_of_neg (by simp; omega), List.length_cons, List.length_cons, List.length_nil]; omega
      · rw [if_neg hl, List.filter_cons_of_pos (by simp; omega), List.length_cons, List.length_cons, List.length_nil]; omega
  exact key _ fun e he => (under_parts (List.mem_filter.1 he).2).2.2.1
/-- What is below a directory is what is right below it, and what is below its directories. -/
theorem parts_sum {m : List DE} (hr : RiseE (toP m)) (hm : Paths m) {d : Bs} (hd : Dir d) : here (parts d).length (wunder m d) + ((dirsS m d).map fun s => (wunder m (down d s)).length).sum = (wunder m d).length := by
  have h1 : (dirsS m d).map (fun s => (wunder m (down d s)).length) = (dirsS m d).map fun s => ((dnames (parts d).length (wunder m d)).filter fun y => decide (y = s)).length :=
    List.map_congr_left fun s hs => wunder_down hm hd hs
  rw [h1, show dirsS m d = ddf (dnames (parts d).length (wunder m d)) from rfl, sum_counts _ (ddf_less (dnames_sorted hr hm d)) _ fun x hx => ?_]
  · exact here_names m d
  · rw [← dd_ddf]
    exact (dd_mem _ none _ hx).resolve_right (by simp)
end Sp
end Go.Proofs.YteiblfcehlibpaaGreatDoor
namespace Go.Proofs.YteiblfcehlibpaaGreatDoor
open Go.RowKit Go.Shelf
attribute [local go_sem] yUpon strOf_toList
theorem cell_grown {w w' : World} {own : Option Nat} {g i : Nat} {u : Value} (hg : w.grownBy w' own) (hne : own ≠ some g) (c : w.cell? ⟨g, i, none⟩ = some u) : w'.cell? ⟨g, i, none⟩ = some u :=
  (World.cell?_of_block (hg.block g (World.block_lt_of_cell? w _ c) (fun e => hne e.symm))).trans c
theorem entsC_cat (a b : List (Option Addr × Nat × Sp.DE)) : entsC (a ++ b) = entsC a ++ entsC b := by
  induction a with
  | nil => rfl
  | cons x r ih => rw [List.cons_append, entsC, ih, entsC, List.append_assoc]
namespace Sp
theorem lastD_more (U X : List DE) (n kN j : Nat) (hX : X = (U.drop n).take kN) (hj : X.length = j + 1) : lastD U (n + (j + 1)) = (X[j]'(by omega)).1 ∧ U.take (n + (j + 1)) = U.take n ++ X ∧ n + (j + 1) ≤ U.length := by
  subst hX
  have hl := hj
  rw [List.length_take, List.length_drop] at hl
  have h1 : n + j < U.length := by omega
  refine ⟨?_, ?_, by omega⟩
  · rw [show n + (j + 1) = (n + j) + 1 by omega]
    show (U[n + j]?.map (·.1)).getD [] = _
    rw [List.getElem?_eq_getElem h1, List.getElem_take, List.getElem_drop]; rfl
  · rw [List.take_add]
    congr 1
    rcases Nat.le_total kN (U.length - n) with h | h
    · rw [show kN = j + 1 by omega]
    · rw [List.take_of_length_le (by rw [List.length_drop]; omega), List.take_of_length_le (by rw [List.length_drop]; omega)]
end Sp
set_option maxRecDepth 100000 in
set_option maxHeartbeats 4000000 in
theorem walkAll_calls (l : List Sp.DE) (A : Option Addr) (cap : Nat) (d : Sp.Bs) (most : Int) (w : World) (hE : EntsAt w A l) (K : KeysAt w 4) (M : MaxAt w) :
    Calls Tryz.prog 6 #[.slice A l.length cap, .string (strOf d), .int .i64 most] w fun e w' => e = .returned (.bool true) ∧ Ext w w' := by
  have KK := Lib.hid K
  have MM := Lib.hid M
  have HE := Lib.hid hE
  have AW := Lib.hid fun W (e : Ext w W) => awake16_calls W (K.ext e) (max_kept M e)
  clear K M hE
  go_enter Tryz.func6, Tryz.ntmps6
  go_wp2_with fail
  refine (great15_calls l A cap 20 w HE.out (by decide)).mono ?_
  rintro e w1 ⟨b, rfl, hgr, hb1⟩
  have B1 := Lib.hid (show Ext w w1 from hb1)
  clear hb1
  cases b with
  | true =>
    go_wp2_with fail
    refine (AW.out w1 B1.out).mono ?_
    rintro e w2 ⟨rfl, hb2⟩
    go_wp2
    go_ret
    exact ⟨rfl, B1.out.trans hb2⟩
  | false =>
    obtain ⟨hl, hp⟩ := hgr rfl
    by_cases hd : 200 < (strOf d).size
    · have c1 : (200 : Int) < ((strOf d).size : Int) := by omega
      go_wp2_with fail
      refine (AW.out w1 B1.out).mono ?_
      rintro e w2 ⟨rfl, hb2⟩
      go_wp2
      go_ret
      exact ⟨rfl, B1.out.trans hb2⟩
    · have c1 : ¬ (200 : Int) < ((strOf d).size : Int) := by omega
      have DL := Lib.hid (show d.length ≤ 1000000 by rw [strOf_size] at hd; omega)
      clear hd
      go_wp2_with fail
      refine (of_calls l A cap w1 (HE.out.ext B1.out) (by omega) (KK.out.ext B1.out) (max_kept MM.out B1.out)).mono ?_
      rintro e w2 ⟨v2, rfl, ht2, hb2⟩
      have T2 := Lib.hid ht2
      have B2 := Lib.hid (B1.out.trans hb2)
      clear ht2 hb2
      have BO := Lib.hid (Sp.both_of l)
      have ML := Lib.hid (show (Sp.rof [] l).1.length ≤ 20 from Nat.le_trans (Sp.rof_len l []) (by simpa using hl))
      obtain ⟨o, ho⟩ : ∃ o, o = (Sp.ofT none l).1 := ⟨_, rfl⟩
      obtain ⟨m, hm⟩ : ∃ m, m = (Sp.rof [] l).1 := ⟨_, rfl⟩
      rw [← ho] at T2 BO
      rw [← hm] at BO ML
      clear ho hm
      have TE := Lib.hid BO.out.told
      have WL := Lib.hid fun a W (e : Ext w2 W) (ha : a.length ≤ 1000000) (k : Int) => wlist_calls o v2 d a k W ha (T2.out.ext e) BO.out.go BO.out.short BO.out.len BO.out.many (KK.out.ext (B2.out.trans e)) (max_kept MM.out (B2.out.trans e))
      have UC := Lib.hid fun W (e : Ext w2 W) => wunder_calls o v2 d W (T2.out.ext e) BO.out.go BO.out.short BO.out.len BO.out.many (KK.out.ext (B2.out.trans e)) (max_kept MM.out (B2.out.trans e))
      rw [TE.out] at WL UC
      have AT := Lib.hid fun n hn k => Sp.wlist_at BO.out.rise d n hn k
      have LP := Lib.hid (Sp.lastD_len (U := Sp.wunder m d) fun e he => BO.out.mlen e (List.mem_filter.1 he).1)
      have UL := Lib.hid (Nat.le_trans (Sp.wunder_len m d) ML.out)
      have LF := Lib.hid (show ∀ e ∈ Sp.wunder m d, e.2.length ≤ 1000000 from fun e he => BO.out.leaf e (List.mem_filter.1 he).1)
      obtain ⟨U, hU⟩ : ∃ U, U = Sp.wunder m d := ⟨_, rfl⟩
      rw [← hU] at UC AT LP UL LF
      have AT2 := Lib.hid (show ∀ n, n ≤ U.length → ∀ k, Sp.wlist m d (Sp.lastD U n) k = (U.drop n).take k.toNat from fun n hn k => AT.out n hn k)
      obtain ⟨x, hx⟩ : ∃ x : Int, x = most % 18446744073709551616 := ⟨_, rfl⟩
      obtain ⟨r, hr⟩ : ∃ r : Nat, r = (x % 4).toNat := ⟨_, rfl⟩
      have hr4 : r < 4 := by omega
      have u1 : IntKind.u64.wrap most = x := by rw [IntKind.wrap_u64, hx]
      have u2 : x.tmod 4 = (r : Int) := by
        rw [Int.tmod_eq_emod_of_nonneg (by omega), hr]
        omega
      have u3 : IntKind.i64.wrap (r : Int) = (r : Int) := IntWalk.i64_in _ (by omega)
      have u5 : IntKind.u64.wrap (r : Int) = (r : Int) := by rw [IntKind.wrap_u64]; omega
      obtain ⟨ap, rfl⟩ := tree_ptr T2.out
      clear hU hp hx hr AT hl
      go_wp2
      go_loopw [10, 11, 12] (fun v10 v11 v12 wr => ∃ n i : Nat, i ≤ n ∧ n ≤ U.length ∧ EntsOwn wr w2.heap.size v10 (U.take n) ∧ v11 = .string (strOf (Sp.lastD U n)) ∧ v12 = .int .i64 i ∧ Ext w2 wr) (fun _ _ v12 _ => 30 - (intOf v12).toNat)
      case atStart => exact ⟨0, 0, Nat.le_refl _, Nat.zero_le _, ⟨[], rfl, World.ownsRow_nil _ _ _ _, fun x h => by cases h⟩, rfl, rfl, Ext.refl _⟩
      case round =>
        obtain ⟨n, i, hin, hn, hO, rfl, rfl, hb⟩ := hrel
        have HB := Lib.hid hb
        have OO := Lib.hid hO
        have hi : (i : Int) < 30 := by have := UL.out; omega
        have LC := Lib.hid (WL.out (Sp.lastD U n) wr hb (LP.out n) (1 + (r : Int)))
        rw [AT2.out n hn, show (1 + (r : Int)).toNat = r + 1 by omega] at LC
        have X20 := Lib.hid (show ((U.drop n).take (r + 1)).length ≤ r + 1 by rw [List.length_take]; exact Nat.min_le_left _ _)
        have X0 := Lib.hid (show (U.drop n).take (r + 1) = [] → n = U.length from fun h => by
          have := congrArg List.length h
          rw [List.length_take, List.length_drop, List.length_nil] at this
          omega)
        obtain ⟨a, ha⟩ : ∃ a, a = Sp.lastD U n := ⟨_, rfl⟩
        rw [← ha] at LC ⊢
        obtain ⟨X, hX⟩ : ∃ X, X = (U.drop n).take (r + 1) := ⟨_, rfl⟩
        have LM := Lib.hid fun j hj => Sp.lastD_more U X n (r + 1) j hX hj
        rw [← hX] at LC X20 X0
        clear hO hb ha hX
        go_wp2_with fail
        refine LC.out.mono ?_
        rintro e w6 ⟨v6, rfl, hO6, hb6⟩
        obtain ⟨A6, c6, rfl, hE6⟩ := hO6.read
        have E6 := Lib.hid hE6
        have O6 := Lib.hid hO6
        have B6 := Lib.hid hb6
        have EB := Lib.hid (HB.out.trans hb6)
        clear hE6 hO6 hb6
        by_cases h0 : X = []
        · subst h0
          have e0 : n = U.length := X0.out rfl
          subst e0
          have OU := Lib.hid (show EntsOwn wr w2.heap.size u10 U by have := OO.out; rwa [List.take_length] at this)
          obtain ⟨AU, cU, rfl, hEU⟩ := OU.out.read
          have EU := Lib.hid (hEU.ext B6.out)
          have UL2 := UL.out
          have ul : (U.length : Int) ≤ 20 := by omega
          rw [List.length_nil]
          clear hEU hn OO OU O6 E6 LM X0 X20 UL2
          go_wp2_with fail
          refine (UC.out w6 EB.out).mono ?_
          rintro e w7 ⟨v7, rfl, hO7, hb7⟩
          obtain ⟨A7, c7, rfl, hE7⟩ := hO7.read
          have E7 := Lib.hid hE7
          have EU7 := Lib.hid (EU.out.ext hb7)
          have B7 := Lib.hid (B2.out.trans (EB.out.trans hb7))
          clear hO7 hE7 hb7
          have SC := Lib.hid (esame_calls U U AU A7 cU c7 w7 EU7.out E7.out (by have := UL.out; omega) LF.out)
          rw [decide_eq_true (rfl : U = U)] at SC
          go_wp2_with fail
          refine SC.out.mono ?_
          rintro e w8 ⟨rfl, hb8⟩
          have B8 := Lib.hid (B7.out.trans hb8)
          clear hb8
          go_wp2_with fail
          refine (AW.out w8 B8.out).mono ?_
          rintro e w9 ⟨rfl, hb9⟩
          go_wp2
          go_ret
          exact ⟨rfl, B8.out.trans hb9⟩
        · obtain ⟨j, hj⟩ : ∃ j, X.length = j + 1 := ⟨X.length - 1, by have := List.length_pos_iff.2 h0; omega⟩
          have nn : n ≤ 20 := by have := UL.out; omega
          have jr : j ≤ r := by have := X20.out; omega
          obtain ⟨l1, l2, l3⟩ := LM.out j hj
          have L1 := Lib.hid l1
          have L2 := Lib.hid l2
          obtain ⟨eb, eo, rfl, he⟩ := E6.out.at (by omega)
          obtain ⟨Av, cv, c0, c1x, c2x⟩ := he j (by omega)
          have C0 := Lib.hid c0
          obtain ⟨mo, m1, m2, m3⟩ := OO.out
          rw [show (U.take n).length = n by rw [List.length_take]; omega] at m2
          obtain ⟨mx, x1, x2, x3⟩ := O6.out
          have M1 := Lib.hid m1
          have M2 := Lib.hid m2
          have M3 := Lib.hid m3
          have X1 := Lib.hid x1
          have X3 := Lib.hid x3
          obtain ⟨Ax, cx, ex, hx⟩ := own_read x2
          cases ex
          have XC := Lib.hid hx
          have XN := Lib.hid (show (entsC mx).length = (j + 1) * 2 by rw [entsC_len, ← hj, ← x1, List.length_map])
          have NE := Lib.hid (show u10.ownBlock ≠ some eb from fun h => by
            have h1 := (m2.lt eb h).2
            have h2 := (x2.lt eb rfl).1
            omega)
          obtain ⟨y, hy⟩ : ∃ y, y = X[j]'(by omega) := ⟨_, rfl⟩
          simp only [← hy] at L1 C0
          rw [hj]
          have c3 : ((j : Int) + 1 == 0) = false := by rw [beq_eq_false_iff_ne]; omega
          have c4 : ¬ (1 + (r : Int)) < (j : Int) + 1 := by omega
          have c5 : ¬ ((1 : Int) + (r : Int) < ((j + 1 : Nat) : Int)) := by omega
          have w1 : IntKind.i64.wrap (j : Int) = (j : Int) := IntWalk.i64_in _ (by omega)
          clear l1 l2 he c0 c1x c2x m1 m2 m3 x1 x2 x3 hx hy h0 LM X0 X20 hj OO O6 E6
          have tokA : True := trivial
          go_wp2_with (have _t := tokA; at_builtin; refine app_cells appEnt rfl _ _ rfl w2.heap.size u10 n (entsC mo) rfl (own_ext M2.out B6.out) (some ⟨eb, eo, none⟩) (j + 1) c6 (entsC mx) rfl XN.out XC.out (entsC_one mx) (by omega) EB.out.size ?_; intro v7 w7 hown7 hgr7 hb7; have O7 := Lib.hid hown7; have G7 := Lib.hid hgr7; have B7 := Lib.hid hb7; have f7 := cell_grown hgr7 NE.out C0.out; clear tokA _t hown7 hgr7 hb7)
          have KA := Lib.hid (show KB entT w2.heap.size wr w7 from (KB.ext HB.out.size B6.out).trans (KB.grown (own_ext M2.out B6.out) (.inr rfl) G7.out B7.out))
          have KX := Lib.hid (show KB entT w2.heap.size w6 w7 from KB.grown (own_ext M2.out B6.out) (.inr rfl) G7.out B7.out)
          go_roundw
          case rel =>
            refine ⟨n + (j + 1), i + 1, by omega, l3, ⟨mo ++ mx, by rw [L2.out, List.map_append, M1.out, X1.out], ?_, fun z hz => ?_⟩, by rw [L1.out], by go_num, Below.trans EB.out B7.out⟩
            · rw [entsC_cat, show (U.take (n + (j + 1))).length = n + (j + 1) by rw [List.length_take]; omega]
              exact O7.out
            · rcases List.mem_append.1 hz with h | h
              · exact (M3.out z h).keep (by intro h; rcases h with h | h <;> cases h) (by intro h; rcases h with h | h <;> cases h) KA.out
              · exact (X3.out z h).keep (by intro h; rcases h with h | h <;> cases h) (by intro h; rcases h with h | h <;> cases h) KX.out
          case measure => simp [intOf]; omega
theorem walkAll_bs (l : List Sp.DE) (A : Option Addr) (cap : Nat) (d : ByteArray) (most : Int) (w : World) (hE : EntsAt w A l) (K : KeysAt w 4) (M : MaxAt w) :
    Calls Tryz.prog 6 #[.slice A l.length cap, .string d, .int .i64 most] w fun e w' => e = .returned (.bool true) ∧ Ext w w' := by
  have := walkAll_calls l A cap d.data.toList most w hE K M
  rwa [strOf_self] at this
end Go.Proofs.YteiblfcehlibpaaGreatDoor
