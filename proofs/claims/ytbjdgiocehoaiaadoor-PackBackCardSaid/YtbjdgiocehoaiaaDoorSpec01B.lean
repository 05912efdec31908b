/- Numbers as bytes are read as they were written, and written as they were read: plain. -/
import Derived.Test.YtbjdgiocehoaiaaDoorSpec10
namespace Go.Proofs.YtbjdgiocehoaiaaDoor
namespace Sp
theorem cput_form (n : Nat) : ∃ p b, cput n = p ++ [b] ∧ (∀ x ∈ p, 128 ≤ x.toNat) ∧ b.toNat < 128 ∧ num (cput n) = n ∧ (p ≠ [] → b ≠ 0) ∧ (b = 0 → n = 0 ∨ p ≠ []) := by
  induction n using Nat.strongRecOn with
  | _ n ih =>
    by_cases h : n < 128
    · refine ⟨[], UInt8.ofNat n, ?_, by simp, ?_, ?_, by simp, ?_⟩
      · rw [cput, if_pos h]; rfl
      · simp; omega
      · rw [cput, if_pos h]; simp [num]; omega
      · intro e
        have := congrArg UInt8.toNat e
        simp at this
        left; omega
    · obtain ⟨p, b, h1, h2, h3, h4, h5, h6⟩ := ih (n / 128) (by omega)
      have hc : cput n = UInt8.ofNat (n % 128 + 128) :: cput (n / 128) := by rw [cput, if_neg h]
      refine ⟨UInt8.ofNat (n % 128 + 128) :: p, b, by rw [hc, h1]; rfl, ?_, h3, ?_, ?_, fun _ => .inr (by simp)⟩
      · intro x hx
        rcases List.mem_cons.1 hx with rfl | hx
        · simp; omega
        · exact h2 x hx
      · rw [hc, num, h4]; simp; omega
      · intro _ e
        rcases h6 e with h0 | h0
        · omega
        · exact h5 h0 e
theorem cend_app : ∀ (p : List UInt8) (pre : List UInt8) (b : UInt8) (r : List UInt8) (f : Nat), (∀ x ∈ p, 128 ≤ x.toNat) → b.toNat < 128 → p.length < f → cend (pre ++ (p ++ b :: r)) f pre.length = some (pre.length + p.length)
  | [], pre, b, r, f, _, hb, hf => by
    obtain ⟨f, rfl⟩ : ∃ g, f = g + 1 := ⟨f - 1, by simp at hf; omega⟩
    rw [cend, List.getElem?_append_right (Nat.le_refl _), Nat.sub_self]
    simp [hb]
  | c :: p, pre, b, r, f, hp, hb, hf => by
    obtain ⟨f, rfl⟩ : ∃ g, f = g + 1 := ⟨f - 1, by simp at hf; omega⟩
    have hc : ¬ c.toNat < 128 := by have := hp c (by simp); omega
    have ih := cend_app p (pre ++ [c]) b r f (fun x hx => hp x (by simp [hx])) hb (by simp at hf; omega)
    rw [cend, List.getElem?_append_right (Nat.le_refl _), Nat.sub_self]
    simp only [List.cons_append, List.getElem?_cons_zero, hc, if_false]
    simp only [List.length_append, List.length_cons, List.length_nil, List.append_assoc, List.singleton_append] at ih
    simp only [List.length_cons]
    rw [Nat.zero_add] at ih
    rw [ih]
    congr 1
    omega
theorem take_cput (n : Nat) (r : List UInt8) (h : n ≤ 1073741824) : take (cput n ++ r) = (n, (cput n).length, 0) := by
  obtain ⟨p, b, h1, h2, h3, h4, h5, _⟩ := cput_form n
  have hlen := cput_len n h
  rw [h1, List.length_append] at hlen
  have hpl : p.length < 5 := by simp at hlen; omega
  have he := cend_app p [] b r 5 h2 h3 hpl
  simp only [List.nil_append, List.length_nil, Nat.zero_add] at he
  have hl : cput n ++ r = p ++ b :: r := by rw [h1]; simp
  have htk : (p ++ b :: r).take (p.length + 1) = cput n := by
    rw [h1, List.take_append, List.take_of_length_le (by omega)]; simp
  unfold take
  rw [hl, he]
  simp only []
  rw [if_neg, htk, h4, if_neg (by omega), h1]
  · simp
  · rintro ⟨e, h0⟩
    rw [List.getElem?_append_right (Nat.le_refl _), Nat.sub_self] at e
    simp at e
    exact h5 (by intro h; rw [h] at h0; simp at h0) e
theorem cend_spec {l : List UInt8} : ∀ {f i k : Nat}, cend l f i = some k → k < l.length ∧ i ≤ k ∧ (∀ j, i ≤ j → (hj : j < l.length) → j < k → 128 ≤ l[j].toNat) ∧ (∀ h : k < l.length, l[k].toNat < 128)
  | 0, _, _, h => by simp [cend] at h
  | f + 1, i, k, h => by
    unfold cend at h
    cases hl : l[i]? with
    | none => rw [hl] at h; cases h
    | some b =>
      rw [hl] at h
      simp only [] at h
      obtain ⟨hi, hb⟩ := List.getElem?_eq_some_iff.1 hl
      by_cases h8 : b.toNat < 128
      · rw [if_pos h8] at h
        injection h with h
        subst h
        exact ⟨hi, Nat.le_refl _, fun j h1 _ h2 => by omega, fun _ => by rw [hb]; exact h8⟩
      · rw [if_neg h8] at h
        obtain ⟨g1, g2, g3, g4⟩ := cend_spec h
        refine ⟨g1, by omega, fun j h1 hj h2 => ?_, g4⟩
        rcases Nat.eq_or_lt_of_le h1 with e | e
        · subst e; rw [hb]; omega
        · exact g3 j e hj h2
theorem num_pos (b : UInt8) (hb : b.toNat < 128) (h0 : b ≠ 0) : ∀ p : List UInt8, 0 < num (p ++ [b])
  | [] => by
    have : b.toNat ≠ 0 := fun e => h0 (UInt8.toNat_inj.1 (by simpa using e))
    simp [num]; omega
  | c :: p => by have := num_pos b hb h0 p; simp only [List.cons_append, num]; omega
theorem cput_num (b : UInt8) (hb : b.toNat < 128) : ∀ p : List UInt8, (∀ x ∈ p, 128 ≤ x.toNat) → (p ≠ [] → b ≠ 0) → cput (num (p ++ [b])) = p ++ [b]
  | [], _, _ => by
    have e : num ([] ++ [b]) = b.toNat := by simp [num]; omega
    rw [e, cput, if_pos hb]; simp
  | c :: p, hp, h0 => by
    have hc := hp c (by simp)
    have hc2 := c.toNat_lt
    have hn := num_pos b hb (h0 (by simp)) p
    have ih := cput_num b hb p (fun x hx => hp x (by simp [hx])) (fun _ => h0 (by simp))
    have e1 : num (c :: p ++ [b]) = c.toNat % 128 + 128 * num (p ++ [b]) := rfl
    rw [cput, if_neg (by rw [e1]; omega)]
    have e2 : num (c :: p ++ [b]) / 128 = num (p ++ [b]) := by rw [e1]; omega
    have e3 : num (c :: p ++ [b]) % 128 + 128 = c.toNat := by rw [e1]; omega
    rw [e2, ih, e3]
    simp
theorem take_inv {l : List UInt8} {n k : Nat} (h : take l = (n, k, 0)) : l.take k = cput n ∧ k ≤ l.length ∧ n ≤ 1073741824 := by
  unfold take at h
  cases hc : cend l 5 0 with
  | none => rw [hc] at h; simp only [] at h; split at h <;> simp at h
  | some i =>
    rw [hc] at h
    obtain ⟨g1, _, g3, g4⟩ := cend_spec hc
    simp only [] at h
    split at h
    · simp at h
    · rename_i hz
      split at h
      · simp at h
      · rename_i hbig
        simp only [Prod.mk.injEq, and_true] at h
        obtain ⟨h1, h2⟩ := h
        have htk : l.take (i + 1) = l.take i ++ [l[i]] := List.take_succ_eq_append_getElem g1
        have hk := cput_num l[i] (g4 g1) (l.take i) (fun x hx => by
          obtain ⟨j, hj, rfl⟩ := List.getElem_of_mem hx
          rw [List.getElem_take]
          simp at hj
          exact g3 j (Nat.zero_le _) (by omega) (by omega)) (fun hne e => hz ⟨by rw [List.getElem?_eq_getElem g1, e], by
            rcases Nat.eq_zero_or_pos i with h0 | h0
            · subst h0; simp at hne
            · exact h0⟩)
        rw [← h2, ← h1]
        rw [← htk] at hk
        exact ⟨hk.symm, by omega, by omega⟩
theorem put_nat (n : Nat) (h : n ≤ 1073741824) : put (n : Int) = cput n := by unfold put; rw [if_pos (by omega)]; simp
/-- A number that is read behind its bytes; and bytes of a number that was read. -/
theorem rnum_put {most : Int} {n : Nat} (r : List UInt8) (h : (n : Int) ≤ most) (hn : n ≤ 1073741824) : rnum most (put (n : Int) ++ r, 0) = (n, (r, 0)) := by
  unfold rnum rpiece pnum
  simp only []
  rw [put_nat n hn, take_cput n r hn]
  have hm : ¬ most < (n : Int) := by omega
  simp [hm]
theorem rnum_inv {most : Int} {x : R} {n : Nat} {r : List UInt8} (h : rnum most x = (n, (r, 0))) : x.2 = 0 ∧ x.1 = put (n : Int) ++ r ∧ (n : Int) ≤ most ∧ n ≤ 1073741824 := by
  unfold rnum rpiece at h
  by_cases h0 : x.2 = 0
  · rw [if_neg (by simpa using h0)] at h
    by_cases h1 : (pnum most x.1).2.2 = 0
    · rw [if_neg (by simpa using h1)] at h
      have hm := pnum_most h1
      unfold pnum at h h1 hm
      simp only [] at h h1 hm
      simp only [Prod.mk.injEq, and_true] at h
      obtain ⟨e1, e2⟩ := h
      have hz : (take x.1).2.2 = 0 := by
        split at h1
        · omega
        · exact h1
      have ht : take x.1 = (n, (take x.1).2.1, 0) := by
        rw [← e1, ← hz]
      obtain ⟨g1, g2, g3⟩ := take_inv ht
      refine ⟨h0, ?_, by rw [← e1]; exact hm, g3⟩
      rw [put_nat n g3, ← g1, ← e2, List.take_append_drop]
    · rw [if_pos h1] at h
      simp only [Prod.mk.injEq] at h
      exact absurd h.2.2 h1
  · rw [if_pos h0] at h
    simp only [Prod.mk.injEq] at h
    have := congrArg Prod.snd h.2
    exact absurd this h0
theorem rtext_put {most : Int} (t r : List UInt8) (h : (t.length : Int) ≤ most) (hn : t.length ≤ 1073741824) : rtext most (put (t.length : Int) ++ (t ++ r), 0) = (t, (r, 0)) := by
  rw [rtext_eq, rnum_put (t ++ r) h hn]
  simp only []
  rw [if_neg (by simp : ¬ ((0 : Int) ≠ 0)), if_neg (by simp)]
  simp
theorem rtext_inv {most : Int} {x : R} {t r : List UInt8} (h : rtext most x = (t, (r, 0))) : x.2 = 0 ∧ x.1 = put (t.length : Int) ++ (t ++ r) ∧ (t.length : Int) ≤ most := by
  rw [rtext_eq] at h
  by_cases h0 : (rnum most x).2.2 = 0
  · rw [if_neg (by simpa using h0)] at h
    by_cases h1 : (rnum most x).2.1.length < (rnum most x).1
    · rw [if_pos h1] at h
      simp only [Prod.mk.injEq] at h
      exact absurd h.2.2 (by decide)
    · rw [if_neg h1] at h
      simp only [Prod.mk.injEq, and_true] at h
      obtain ⟨e1, e2⟩ := h
      have hx : rnum most x = ((rnum most x).1, ((rnum most x).2.1, 0)) := by rw [← h0]
      obtain ⟨g1, g2, g3, _⟩ := rnum_inv hx
      have hl : t.length = (rnum most x).1 := by rw [← e1, List.length_take]; omega
      refine ⟨g1, ?_, by rw [hl]; exact g3⟩
      rw [hl, ← e1, ← e2, List.take_append_drop]
      exact g2
  · rw [if_pos h0] at h
    simp only [Prod.mk.injEq] at h
    have := congrArg Prod.snd h.2
    exact absurd this h0
end Sp
end Go.Proofs.YtbjdgiocehoaiaaDoor
