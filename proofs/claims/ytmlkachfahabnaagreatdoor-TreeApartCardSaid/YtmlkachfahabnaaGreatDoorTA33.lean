/- Walks: a tree with a leaf at a place: plain, and the walk. -/
import Derived.Test.YtmlkachfahabnaaGreatDoorTA31
import Derived.Test.YtmlkachfahabnaaGreatDoorTA32
namespace Go.Proofs.YtmlkachfahabnaaGreatDoor
open Go.RowKit Go.Shelf
attribute [local go_sem] yUpon
namespace Sp
theorem fit_kept {leaf : List Ver} {kids : List (Bs × T)} (h : ∀ t, kept leaf kids = some t → Fit t) : Fit (.mk leaf kids) := by
  by_cases h0 : leaf = [] ∧ kids = []
  · obtain ⟨rfl, rfl⟩ := h0
    refine ⟨by decide, ?_, by decide, ?_, by decide⟩
    · intro v h; cases h
    · intro v h; cases h
  · exact h _ (if_neg h0)
theorem with_size (ps : List Bs) (l : List Ver) (x : Option T) (hx : ∀ t, x = some t → Ok t) (n : Nat) (hn : ∀ t, x = some t → sizeT t ≤ n) : ∀ t, withO x ps l = some t → sizeT t ≤ n + 1 := by
  intro t h
  have e := with_entries ps l x hx
  rw [h] at e
  have h2 := setE_len ps l (entriesO x)
  rw [← e] at h2
  rw [sizeT_len]
  have h3 : (entriesO x).length ≤ n := by
    cases x with
    | none => exact Nat.zero_le _
    | some s => rw [show entriesO (some s) = entries s from rfl, ← sizeT_len]; exact hn s rfl
  have h4 : (entriesO (some t)).length = (entries t).length := rfl
  omega
theorem with_fit (l : List Ver) (hl : l ≠ [] → Sp.leaf l = 0) (ps : List Bs) (x : Option T) (hp : ∀ n ∈ ps, name n = true) (hx : ∀ t, x = some t → Ok t) (hn : ∀ t, x = some t → sizeT t ≤ 900000) : ∀ t, withO x ps l = some t → Fit t :=
  fun t h => ok_fit (with_ok l hl ps x hp hx t h).2 (Nat.le_trans (with_size ps l x hx 900000 hn t h) (by decide))
theorem kid_size : ∀ (k : List (Bs × T)) (n : Bs) (t : T), kid k n = some t → sizeT t ≤ sizeL k
  | [], _, _, h => by cases h
  | (m, s) :: r, n, t, h => by
    rw [kid] at h
    rw [sizeL]
    split at h
    · cases h; omega
    · have := kid_size r n t h; omega
/-- What is put in at a place of the kids. -/
theorem upd_del (k : List (Bs × T)) (t : Bs) (p : Nat) (hp : p = pos (k.map (·.1)) t) (hr : Rise k) (h : (k.map (·.1))[p]? = some t) : upd k t none = k.eraseIdx p := by
  rw [upd_pos k t none hr, ← hp, if_pos h]
theorem upd_set (k : List (Bs × T)) (t : Bs) (u : T) (p : Nat) (hp : p = pos (k.map (·.1)) t) (hr : Rise k) (h : (k.map (·.1))[p]? = some t) : upd k t (some u) = k.set p (t, u) := by
  rw [upd_pos k t (some u) hr, ← hp, if_pos h]
theorem upd_ins (k : List (Bs × T)) (t : Bs) (u : T) (p : Nat) (hp : p = pos (k.map (·.1)) t) (hr : Rise k) (h : ¬ (k.map (·.1))[p]? = some t) : upd k t (some u) = k.take p ++ (t, u) :: k.drop p := by
  rw [upd_pos k t (some u) hr, ← hp, if_neg h]
theorem upd_same (k : List (Bs × T)) (t : Bs) (p : Nat) (hp : p = pos (k.map (·.1)) t) (hr : Rise k) (h : ¬ (k.map (·.1))[p]? = some t) : upd k t none = k := by
  rw [upd_pos k t none hr, ← hp, if_neg h]
end Sp
/-- The kids' pointers, behind a change at a place. -/
theorem kids_del {w : World} {gs : List Nat} {k : List (Sp.Bs × Sp.T)} (hl : gs.length = k.length) (p : Nat) (hp : p < k.length) (h : ∀ i (h : i < k.length), InnerAt w (gs.getD i 0) (k[i]).2) :
    (gs.eraseIdx p).length = (k.eraseIdx p).length ∧ ∀ i (h : i < (k.eraseIdx p).length), InnerAt w ((gs.eraseIdx p).getD i 0) ((k.eraseIdx p)[i]).2 := by
  refine ⟨by rw [List.length_eraseIdx, List.length_eraseIdx, hl], fun i hi => ?_⟩
  rw [List.length_eraseIdx, if_pos hp] at hi
  rw [List.getElem_eraseIdx]
  have hg : (gs.eraseIdx p).getD i 0 = if i < p then gs.getD i 0 else gs.getD (i + 1) 0 := by
    rw [List.getD_eq_getElem?_getD, List.getElem?_eraseIdx]
    split <;> rw [List.getD_eq_getElem?_getD]
  rw [hg]
  split
  · exact h i (by omega)
  · exact h (i + 1) (by omega)
theorem kids_set {w : World} {gs : List Nat} {k : List (Sp.Bs × Sp.T)} (hl : gs.length = k.length) (p : Nat) (hp : p < k.length) (h : ∀ i (h : i < k.length), InnerAt w (gs.getD i 0) (k[i]).2) (g : Nat) (n : Sp.Bs) (u : Sp.T) (hu : InnerAt w g u) :
    (gs.set p g).length = (k.set p (n, u)).length ∧ ∀ i (h : i < (k.set p (n, u)).length), InnerAt w ((gs.set p g).getD i 0) ((k.set p (n, u))[i]).2 := by
  refine ⟨by rw [List.length_set, List.length_set, hl], fun i hi => ?_⟩
  rw [List.length_set] at hi
  rw [List.getElem_set]
  by_cases hip : p = i
  · subst hip
    rw [if_pos rfl, List.getD_eq_getElem?_getD, List.getElem?_set_self (by omega)]
    exact hu
  · rw [if_neg hip, List.getD_eq_getElem?_getD, List.getElem?_set_ne hip, ← List.getD_eq_getElem?_getD]
    exact h i hi
theorem kids_ins {w : World} {gs : List Nat} {k : List (Sp.Bs × Sp.T)} (hl : gs.length = k.length) (p : Nat) (hp : p ≤ k.length) (h : ∀ i (h : i < k.length), InnerAt w (gs.getD i 0) (k[i]).2) (g : Nat) (n : Sp.Bs) (u : Sp.T) (hu : InnerAt w g u) :
    (gs.take p ++ g :: gs.drop p).length = (k.take p ++ (n, u) :: k.drop p).length ∧ ∀ i (h : i < (k.take p ++ (n, u) :: k.drop p).length), InnerAt w ((gs.take p ++ g :: gs.drop p).getD i 0) ((k.take p ++ (n, u) :: k.drop p)[i]).2 := by
  refine ⟨by simp; omega, fun i hi => ?_⟩
  have hi2 : i < k.length + 1 := by simp at hi; omega
  have hg : ∀ {α : Type} (xs : List α) (x : α), xs.length = k.length → (xs.take p ++ x :: xs.drop p)[i]? = if i < p then xs[i]? else if i = p then some x else xs[i - 1]? := by
    intro α xs x hx
    have htl : (xs.take p).length = p := by simp; omega
    rw [List.getElem?_append, htl]
    by_cases h1 : i < p
    · rw [if_pos h1, if_pos h1, List.getElem?_take, if_pos h1]
    · rw [if_neg h1, if_neg h1]
      by_cases h2 : i = p
      · subst h2; simp
      · rw [if_neg h2, show i - p = (i - p - 1) + 1 by omega, List.getElem?_cons_succ, List.getElem?_drop, show p + (i - p - 1) = i - 1 by omega]
  have e1 := hg gs g (by omega)
  have e2 := hg k (n, u) rfl
  rw [List.getElem?_eq_getElem hi] at e2
  rw [List.getD_eq_getElem?_getD, e1]
  by_cases h1 : i < p
  · rw [if_pos h1] at e2 ⊢
    rw [List.getElem?_eq_getElem (by omega)] at e2
    rw [Option.some.inj e2, ← List.getD_eq_getElem?_getD]
    exact h i (by omega)
  · rw [if_neg h1] at e2 ⊢
    by_cases h2 : i = p
    · rw [if_pos h2] at e2 ⊢
      rw [Option.some.inj e2]
      exact hu
    · rw [if_neg h2] at e2 ⊢
      rw [List.getElem?_eq_getElem (by omega)] at e2
      rw [Option.some.inj e2, ← List.getD_eq_getElem?_getD]
      exact h (i - 1) (by omega)
theorem own_blk {w w' : World} {B n : Nat} {e : TypeId} {size : Nat} {v : Value} {xs : List Value} (h : w.ownsRow B e size v n xs) (hk : ∀ k, v.ownBlock = some k → w'.heap[k]? = w.heap[k]?) : w'.ownsRow B e size v n xs := by
  refine ⟨h.1, ?_⟩
  rcases h.2 with h | ⟨g, cap, cur, rfl, h2, h3, h4⟩
  · exact .inl h
  · exact .inr ⟨g, cap, cur, rfl, h2, (hk g rfl).trans h3, h4⟩
theorem own_ext {w w' : World} {B n : Nat} {e : TypeId} {size : Nat} {v : Value} {xs : List Value} (h : w.ownsRow B e size v n xs) (x : Ext w w') : w'.ownsRow B e size v n xs := own_blk h fun k hk => x.block k (h.lt k hk).2
theorem own_apart {w w' : World} {g B n : Nat} {e : TypeId} {size : Nat} {v : Value} {xs : List Value} (h : w.ownsRow B e size v n xs) (x : Only g w w') (hne : v.ownBlock ≠ some g) : w'.ownsRow B e size v n xs :=
  own_blk h fun k hk => x.block k (h.lt k hk).2 (fun e => hne (by rw [hk, e]))
/-- Rows of unlike elements lie apart. -/
theorem own_ne {w : World} {B1 B2 n1 n2 s1 s2 : Nat} {e1 e2 : TypeId} {v1 v2 : Value} {xs ys : List Value} (h1 : w.ownsRow B1 e1 s1 v1 n1 xs) (h2 : w.ownsRow B2 e2 s2 v2 n2 ys) (hne : e1 ≠ e2) (k : Nat) (hk : v2.ownBlock = some k) : v1.ownBlock ≠ some k := by
  intro hk1
  rcases h1.2 with ⟨rfl, _⟩ | ⟨g1, c1, cur1, rfl, _, hh1, _⟩
  · cases hk1
  rcases h2.2 with ⟨rfl, _⟩ | ⟨g2, c2, cur2, rfl, _, hh2, _⟩
  · cases hk
  obtain rfl : g1 = k := Option.some.inj hk1
  obtain rfl : g2 = g1 := Option.some.inj hk
  rw [hh1] at hh2
  injection hh2 with h3
  injection h3 with _ h5
  exact hne h5
theorem own_cells {w : World} {B n : Nat} {e : TypeId} {size : Nat} {A : Option Addr} {cap : Nat} {xs : List Value} (h : w.ownsRow B e size (.slice A n cap) n xs) : Cells w A xs := by
  obtain ⟨A', c', hv, hc⟩ := own_read h
  injection hv with h1
  subst h1
  exact hc
section
variable {P : Program} {ops : Array Oper}
/-- A slice of one, in a world of its own name. -/
theorem bslice_new {rest : List Oper} {o : Oper} {a : Act} {w : World} {Q : Exit → Act → World → Prop} (hg : o.guard = none) (t e : TypeId) (x : Operand) (ho : o.op = .buildSlice t 1 #[(0, x)]) {size bytes : Nat} (hst : AppStat P t e size bytes) (hs : size ≤ 1000)
    (cells : Array Value) (hx : (a.eval x).cells = cells) (hc : cells.size = size)
    (h : ∀ g w', w.heap.size ≤ g → isBlk w' g e cells → Ext w w' → wpList P ops Q rest (a.put o.dst (.slice (some ⟨g, 0, none⟩) 1 1)) w') : wpList P ops Q (o :: rest) a w :=
  bslice_one hg t e x ho hst hs cells hx hc (h _ _ (Nat.le_refl _) (heap_alloc_new w _) (Ext.alloc _ _))
end
theorem strsC_one (l : List Sp.Bs) : ∀ u ∈ strsC l, u.oneCell' = true := by
  intro u hu
  obtain ⟨s, _, rfl⟩ := List.mem_map.1 hu
  rfl
theorem ptrsC_one (l : List Nat) : ∀ u ∈ ptrsC l, u.oneCell' = true := by
  intro u hu
  obtain ⟨s, _, rfl⟩ := List.mem_map.1 hu
  rfl
theorem map_erase {α β : Type} (f : α → β) : ∀ (l : List α) (q : Nat), (l.eraseIdx q).map f = (l.map f).eraseIdx q
  | [], _ => rfl
  | _ :: _, 0 => rfl
  | a :: l, q + 1 => by
    show f a :: (l.eraseIdx q).map f = f a :: (l.map f).eraseIdx q
    rw [map_erase f l q]
theorem names_ins (k : List (Sp.Bs × Sp.T)) (q : Nat) (p : Sp.Bs) (u : Sp.T) : strsC ((k.take q ++ (p, u) :: k.drop q).map (·.1)) = (strsC (k.map (·.1))).take q ++ .string (strOf p) :: (strsC (k.map (·.1))).drop q := by
  simp [strsC, List.map_take, List.map_drop]
theorem ptrs_ins (gs : List Nat) (q g : Nat) : ptrsC (gs.take q ++ g :: gs.drop q) = (ptrsC gs).take q ++ .pointer (some ⟨g, 0, none⟩) :: (ptrsC gs).drop q := by
  simp [ptrsC, List.map_take, List.map_drop]
end Go.Proofs.YtmlkachfahabnaaGreatDoor
