/- The plain law of chapter 44: a pattern read from its end is the pattern read from its beginning. -/
import Derived.Test.YteiblfcehlibpaaGreatDoorGF01
namespace Go.Proofs.YteiblfcehlibpaaGreatDoor.Sp

section
variable {α β : Type} (st : α → Bool) (ok : α → β → Bool)

def gm : List α → List β → Bool
  | [], s => s.isEmpty
  | c :: p, s => if st c = true then star (gm p) s else match s with
    | [] => false
    | d :: s => ok c d && gm p s

theorem gm_cons (c : α) (p : List α) (s : List β) : gm st ok (c :: p) s = if st c = true then star (gm st ok p) s else match s with
    | [] => false
    | d :: s => ok c d && gm st ok p s := by cases s <;> rfl

inductive GM : List α → List β → Prop
  | nil : GM [] []
  | none {c p s} : st c = true → GM p s → GM (c :: p) s
  | more {c p d s} : st c = true → GM (c :: p) s → GM (c :: p) (d :: s)
  | one {c p d s} : st c = false → ok c d = true → GM p s → GM (c :: p) (d :: s)

theorem star_iff (f : List β → Bool) (c : α) (p : List α) (hc : st c = true) (h : ∀ s, f s = true ↔ GM st ok p s) : ∀ s, star f s = true ↔ GM st ok (c :: p) s := by
  intro s
  induction s with
  | nil =>
    rw [star, h]
    exact ⟨fun x => .none hc x, fun x => by cases x with | none _ x => exact x⟩
  | cons d s ih =>
    rw [star, Bool.or_eq_true, h, ih]
    constructor
    · rintro (x | x)
      · exact .none hc x
      · exact .more hc x
    · intro x
      cases x with
      | none _ x => exact .inl x
      | more _ x => exact .inr x
      | one hn _ _ => rw [hc] at hn; cases hn

theorem gm_iff : ∀ (p : List α) (s : List β), gm st ok p s = true ↔ GM st ok p s := by
  intro p
  induction p with
  | nil =>
    intro s
    cases s with
    | nil => exact ⟨fun _ => .nil, fun _ => rfl⟩
    | cons d s => exact ⟨fun h => by simp [gm] at h, fun h => by cases h⟩
  | cons c p ih =>
    intro s
    rw [gm_cons]
    cases hc : st c with
    | true => rw [if_pos rfl]; exact star_iff st ok (gm st ok p) c p hc ih s
    | false =>
      rw [if_neg (by simp)]
      cases s with
      | nil => exact ⟨fun h => by simp at h, fun h => by cases h with | none h' _ => rw [hc] at h'; cases h'⟩
      | cons d s =>
        rw [Bool.and_eq_true, ih]
        exact ⟨fun ⟨a, b⟩ => .one hc a b, fun h => by
          cases h with
          | none h' _ => rw [hc] at h'; cases h'
          | more h' _ => rw [hc] at h'; cases h'
          | one _ a b => exact ⟨a, b⟩⟩

theorem GM.snoc_none {p : List α} {s : List β} (h : GM st ok p s) {c : α} (hc : st c = true) : GM st ok (p ++ [c]) s := by
  induction h with
  | nil => exact .none hc .nil
  | none a _ ih => exact .none a ih
  | more a _ ih => exact .more a ih
  | one a b _ ih => exact .one a b ih
theorem GM.snoc_more {q : List α} {s : List β} (h : GM st ok q s) : ∀ {p : List α} {c : α} (d : β), q = p ++ [c] → st c = true → GM st ok q (s ++ [d]) := by
  induction h with
  | nil => intro p c d e; simp at e
  | @none c' p' s' a h' ih =>
    intro p c d e hc
    cases p with
    | nil =>
      simp only [List.nil_append, List.cons.injEq] at e
      obtain ⟨rfl, rfl⟩ := e
      have : ∀ {s : List β}, GM st ok [] s → GM st ok [c'] (s ++ [d]) := fun h => by cases h; exact .more hc (.none hc .nil)
      exact this h'
    | cons x p =>
      simp only [List.cons_append, List.cons.injEq] at e
      obtain ⟨rfl, rfl⟩ := e
      exact .none a (ih d rfl hc)
  | more a _ ih => intro p c d e hc; rw [List.cons_append]; exact .more a (ih d e hc)
  | @one c' p' d' s' a b h' ih =>
    intro p c d e hc
    rw [List.cons_append]
    cases p with
    | nil =>
      simp only [List.nil_append, List.cons.injEq] at e
      obtain ⟨rfl, rfl⟩ := e
      rw [a] at hc; cases hc
    | cons x p =>
      simp only [List.cons_append, List.cons.injEq] at e
      obtain ⟨rfl, rfl⟩ := e
      exact .one a b (ih d rfl hc)
theorem GM.snoc_one {p : List α} {s : List β} (h : GM st ok p s) {c : α} {d : β} (hc : st c = false) (ho : ok c d = true) : GM st ok (p ++ [c]) (s ++ [d]) := by
  induction h with
  | nil => exact .one hc ho .nil
  | none a _ ih => exact .none a ih
  | more a _ ih => exact .more a ih
  | one a b _ ih => exact .one a b ih
theorem GM.rev {p : List α} {s : List β} (h : GM st ok p s) : GM st ok p.reverse s.reverse := by
  induction h with
  | nil => exact .nil
  | none a _ ih => rw [List.reverse_cons]; exact ih.snoc_none st ok a
  | more a _ ih =>
    rw [List.reverse_cons] at ih ⊢
    rw [List.reverse_cons]; exact ih.snoc_more st ok _ rfl a
  | one a b _ ih => rw [List.reverse_cons, List.reverse_cons]; exact ih.snoc_one st ok a b
theorem gm_rev (p : List α) (s : List β) : gm st ok p.reverse s.reverse = gm st ok p s := by
  rw [Bool.eq_iff_iff, gm_iff, gm_iff]
  exact ⟨fun h => by have := h.rev; rwa [List.reverse_reverse, List.reverse_reverse] at this, GM.rev st ok⟩

theorem gm_snoc_nil (p : List α) (c : α) : gm st ok (p ++ [c]) [] = (st c && gm st ok p []) := by
  rw [← gm_rev, List.reverse_append, ← gm_rev st ok p]
  show gm st ok (c :: p.reverse) [] = _
  rw [gm_cons]
  cases st c <;> simp [star]
theorem gm_snoc (p : List α) (s : List β) (c : α) (d : β) : gm st ok (p ++ [c]) (s ++ [d]) = if st c = true then gm st ok p (s ++ [d]) || gm st ok (p ++ [c]) s else ok c d && gm st ok p s := by
  rw [← gm_rev st ok (p ++ [c]), ← gm_rev st ok p, ← gm_rev st ok p, ← gm_rev st ok (p ++ [c]) s]
  simp only [List.reverse_append, List.reverse_cons, List.reverse_nil, List.nil_append, List.singleton_append]
  rw [gm_cons]
  cases h : st c
  · rfl
  · rw [if_pos rfl, if_pos rfl, star, gm_cons, h, if_pos rfl]
end

theorem pm_cons_def (c : UInt8) (p s : Bs) : pm (c :: p) s = if c = 42 then star (pm p) s else match s with
    | [] => false
    | d :: s => (decide (c = 63) || decide (c = d)) && pm p s := by cases s <;> rfl
theorem lm_cons_def (c : Bs) (p s : List Bs) : lm (c :: p) s = if c = [42, 42] then star (lm p) s else match s with
    | [] => false
    | d :: s => gpiece c d && lm p s := by cases s <;> rfl
theorem pm_gm (p s : Bs) : pm p s = gm (fun c => decide (c = 42)) (fun c d => decide (c = 63) || decide (c = d)) p s := by
  induction p generalizing s with
  | nil => rfl
  | cons c p ih =>
    rw [pm_cons_def, gm_cons]
    have : pm p = gm (fun c => decide (c = 42)) (fun c d => decide (c = 63) || decide (c = d)) p := funext ih
    rw [this]
    by_cases h : c = 42
    · rw [if_pos h, if_pos (by simpa using h)]
    · rw [if_neg h, if_neg (by simpa using h)]; cases s <;> rfl
theorem lm_gm (p s : List Bs) : lm p s = gm (fun c => decide (c = [42, 42])) gpiece p s := by
  induction p generalizing s with
  | nil => rfl
  | cons c p ih =>
    rw [lm_cons_def, gm_cons]
    have : lm p = gm (fun c => decide (c = [42, 42])) gpiece p := funext ih
    rw [this]
    by_cases h : c = [42, 42]
    · rw [if_pos h, if_pos (by simpa using h)]
    · rw [if_neg h, if_neg (by simpa using h)]; cases s <;> rfl


/-- Of the first i of a pattern: which beginnings of a name it matches. -/
theorem pm_row_nil (s : Bs) (k : Nat) (h : k ≤ s.length) : pm (List.take 0 ([] : Bs)) (s.take k) = decide (k = 0) := by
  cases k with
  | zero => simp [pm]
  | succ k =>
    cases s with
    | nil => simp at h
    | cons d s => simp [pm]
theorem take_succ' {α : Type} (l : List α) (i : Nat) (h : i < l.length) : l.take (i + 1) = l.take i ++ [l[i]] := by rw [List.take_succ_eq_append_getElem h]
theorem pm_row_zero (p s : Bs) (i : Nat) (hi : i < p.length) : pm (p.take (i + 1)) (s.take 0) = (decide (p[i] = 42) && pm (p.take i) (s.take 0)) := by
  rw [take_succ' p i hi, List.take_zero, pm_gm, pm_gm, gm_snoc_nil]
theorem pm_row_succ (p s : Bs) (i k : Nat) (hi : i < p.length) (hk : k < s.length) : pm (p.take (i + 1)) (s.take (k + 1)) = if p[i] = 42 then pm (p.take i) (s.take (k + 1)) || pm (p.take (i + 1)) (s.take k) else (decide (p[i] = 63) || decide (p[i] = s[k])) && pm (p.take i) (s.take k) := by
  rw [take_succ' p i hi, take_succ' s k hk, pm_gm, pm_gm, pm_gm, pm_gm, gm_snoc]
  by_cases h : p[i] = 42
  · rw [if_pos (by simpa using h), if_pos h]
  · rw [if_neg (by simpa using h), if_neg h]
theorem lm_row_zero (p s : List Bs) (i : Nat) (hi : i < p.length) : lm (p.take (i + 1)) (s.take 0) = (decide (p[i] = [42, 42]) && lm (p.take i) (s.take 0)) := by
  rw [take_succ' p i hi, List.take_zero, lm_gm, lm_gm, gm_snoc_nil]
theorem lm_row_succ (p s : List Bs) (i k : Nat) (hi : i < p.length) (hk : k < s.length) : lm (p.take (i + 1)) (s.take (k + 1)) = if p[i] = [42, 42] then lm (p.take i) (s.take (k + 1)) || lm (p.take (i + 1)) (s.take k) else gpiece p[i] s[k] && lm (p.take i) (s.take k) := by
  rw [take_succ' p i hi, take_succ' s k hk, lm_gm, lm_gm, lm_gm, lm_gm, gm_snoc]
  by_cases h : p[i] = [42, 42]
  · rw [if_pos (by simpa using h), if_pos h]
  · rw [if_neg (by simpa using h), if_neg h]
end Go.Proofs.YteiblfcehlibpaaGreatDoor.Sp
