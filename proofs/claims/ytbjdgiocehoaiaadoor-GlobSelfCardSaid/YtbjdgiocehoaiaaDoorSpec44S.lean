/- The plain law of chapter 44: a path matches itself, two stars match each path, as many stars as it has names match it, one more do not. -/
import Derived.Test.YtbjdgiocehoaiaaDoorSpec44
namespace Go.Proofs.YtbjdgiocehoaiaaDoor.Sp

theorem name_signs {s : Bs} (h : name s = true) : s ≠ [] ∧ s.length ≤ 12 ∧ ∀ c ∈ s, sign c = true := by
  unfold name at h
  simp only [Bool.and_eq_true, decide_eq_true_eq, List.all_eq_true] at h
  exact ⟨h.1.1.1.1, h.1.1.1.2, h.2⟩
theorem sign_no_star {c : UInt8} (h : sign c = true) : c ≠ 42 := by rintro rfl; cases h
theorem no_two {s : Bs} (h : ∀ c ∈ s, c ≠ 42) : twoStars s = false := by
  induction s with
  | nil => rfl
  | cons c r ih =>
    rw [twoStars]
    · exact ih fun d hd => h d (by simp [hd])
    · intro r' e _; exact h c (by simp) e
theorem name_piece {s : Bs} (h : name s = true) : piece s = true := by
  obtain ⟨h0, _, hs⟩ := name_signs h
  unfold piece
  rw [no_two fun c hc => sign_no_star (hs c hc)]
  have : s.all wild = true := List.all_eq_true.2 fun c hc => by unfold wild; rw [hs c hc]; rfl
  rw [this]; simp [h0]
theorem pm_same : ∀ s : Bs, (∀ c ∈ s, c ≠ 42) → pm s s = true
  | [], _ => rfl
  | c :: s, h => by
    rw [pm_cons_def, if_neg (h c (by simp))]
    show ((decide (c = 63) || decide (c = c)) && pm s s) = true
    rw [pm_same s fun d hd => h d (by simp [hd])]; simp
theorem star_all {α : Type} (f : List α → Bool) (h : f [] = true) : ∀ s, star f s = true
  | [] => h
  | d :: s => by rw [star, star_all f h s]; simp
theorem pm_star (s : Bs) : pm [42] s = true := by rw [pm_cons_def, if_pos rfl]; exact star_all _ rfl s
theorem gpiece_same {s : Bs} (h : name s = true) : gpiece s s = true := by
  obtain ⟨h0, hl, hs⟩ := name_signs h
  have hn : s ≠ [42, 42] := by rintro rfl; exact sign_no_star (hs 42 (by simp)) rfl
  unfold gpiece
  rw [name_piece h, h, pm_same s fun c hc => sign_no_star (hs c hc)]
  simp [hn]; omega
theorem gpiece_star {s : Bs} (h : name s = true) : gpiece [42] s = true := by
  unfold gpiece
  rw [h, pm_star]; decide

theorem lm_same : ∀ P : List Bs, (∀ x ∈ P, name x = true) → lm P P = true
  | [], _ => rfl
  | x :: P, h => by
    have hx := h x (by simp)
    have hn : x ≠ [42, 42] := by rintro rfl; exact sign_no_star ((name_signs hx).2.2 42 (by simp)) rfl
    rw [lm_cons_def, if_neg hn]
    show (gpiece x x && lm P P) = true
    rw [gpiece_same hx, lm_same P fun y hy => h y (by simp [hy])]; rfl
theorem lm_deep (P : List Bs) : lm [[42, 42]] P = true := by rw [lm_cons_def, if_pos rfl]; exact star_all _ rfl P
theorem lm_stars (q : List Bs) : ∀ P R : List Bs, (∀ x ∈ P, name x = true) → lm (List.replicate P.length [42] ++ q) (P ++ R) = lm q R
  | [], R, _ => rfl
  | x :: P, R, h => by
    rw [List.length_cons, List.replicate_succ, List.cons_append, lm_cons_def, if_neg (by decide)]
    show (gpiece [42] x && lm (List.replicate P.length [42] ++ q) (P ++ R)) = _
    rw [gpiece_star (h x (by simp)), lm_stars q P R fun y hy => h y (by simp [hy])]; rfl

/-- So many stars, a slash between. -/
def starsB : Nat → Bs
  | 0 => []
  | 1 => [42]
  | k + 2 => starsB (k + 1) ++ [47, 42]
theorem split_append (s t : Bs) : split (s ++ 47 :: t) = split s ++ split t := by
  induction s with
  | nil => rw [List.nil_append]; simp [split]
  | cons c r ih =>
    rw [List.cons_append]
    by_cases h : c = 47
    · rw [split, if_pos h, ih, split, if_pos h]; rfl
    · obtain ⟨a, l, e⟩ : ∃ a l, split r = a :: l := by
        cases e : split r with
        | nil => exact absurd e (split_ne r)
        | cons a l => exact ⟨a, l, rfl⟩
      rw [split, if_neg h, ih, split, if_neg h, e]; rfl
theorem split_stars : ∀ k, split (starsB (k + 1)) = List.replicate (k + 1) [42]
  | 0 => rfl
  | k + 1 => by
    have e : starsB (k + 1 + 1) = starsB (k + 1) ++ 47 :: [42] := rfl
    rw [e, split_append, split_stars k]
    have : split [42] = [[42]] := rfl
    rw [this, ← List.replicate_succ']
theorem stars_len : ∀ k, (starsB k).length ≤ 2 * k
  | 0 => by simp [starsB]
  | 1 => by simp [starsB]
  | k + 2 => by have := stars_len (k + 1); simp [starsB]; omega

theorem parts_of_check {s : Bs} (h : check s = 0) : parts s = split s ∧ (split s).length ≤ 4 ∧ ∀ x ∈ split s, name x = true := by
  unfold check at h
  split at h
  · cases h
  · rename_i h1
    split at h
    · cases h
    · rename_i h2
      unfold parts at h2 ⊢
      rw [if_neg h1] at h2 ⊢
      by_cases h3 : 4 < (split s).length
      · rw [if_pos h3] at h2; simp at h2
      · rw [if_neg h3] at h2 ⊢
        by_cases h4 : (split s).all name = true
        · rw [if_pos h4]; exact ⟨rfl, by omega, List.all_eq_true.1 h4⟩
        · rw [if_neg h4] at h2; simp at h2
theorem gcheck_ok {p : Bs} (h8 : (split p).length ≤ 8) (h : ∀ x ∈ split p, x.length ≤ 24 ∧ piece x = true) : gcheck p = 0 := by
  unfold gcheck
  rw [if_neg (by omega), if_neg, if_pos]
  · exact List.all_eq_true.2 fun x hx => (h x hx).2
  · rw [Bool.not_eq_true, List.any_eq_false]; intro x hx; have := (h x hx).1; simp; omega
theorem gmatch_of {p s : Bs} (h8 : (split p).length ≤ 8) (h : ∀ x ∈ split p, x.length ≤ 24 ∧ piece x = true) (hs : check s = 0) : gmatch p s = lm (split p) (split s) := by
  obtain ⟨e, _, _⟩ := parts_of_check hs
  unfold gmatch
  rw [gcheck_ok h8 h, e]; simp [split_ne]

/-- What the statement asks, of a path of so many names. -/
theorem self_all {s : Bs} (hs : check s = 0) : gmatch s s = true ∧ gmatch [42, 42] s = true ∧ gmatch (starsB (split s).length) s = true ∧ gmatch (starsB (split s).length ++ [47, 42]) s = false ∧ gmatch (starsB (split s).length ++ [47, 42, 42]) s = true := by
  obtain ⟨_, h4, hn⟩ := parts_of_check hs
  obtain ⟨k, hk⟩ : ∃ k, (split s).length = k + 1 := ⟨(split s).length - 1, by have := List.length_pos_iff.2 (split_ne s); omega⟩
  have hstar : ([42] : Bs).length ≤ 24 ∧ piece [42] = true := by decide
  have hdeep : ([42, 42] : Bs).length ≤ 24 ∧ piece [42, 42] = true := by decide
  have e1 := split_stars k
  have e2 : split (starsB (k + 1) ++ [47, 42]) = List.replicate (k + 1) [42] ++ [[42]] := by
    have : starsB (k + 1) ++ [47, 42] = starsB (k + 1) ++ 47 :: [42] := rfl
    rw [this, split_append, e1]; rfl
  have e3 : split (starsB (k + 1) ++ [47, 42, 42]) = List.replicate (k + 1) [42] ++ [[42, 42]] := by
    have : starsB (k + 1) ++ [47, 42, 42] = starsB (k + 1) ++ 47 :: [42, 42] := rfl
    rw [this, split_append, e1]; rfl
  refine ⟨?_, ?_, ?_, ?_, ?_⟩
  · rw [gmatch_of (by omega) (fun x hx => ⟨by have := (name_signs (hn x hx)).2.1; omega, name_piece (hn x hx)⟩) hs]
    exact lm_same _ hn
  · rw [gmatch_of (by decide) (fun x hx => by
      have : split [42, 42] = [[42, 42]] := rfl
      rw [this] at hx; simp at hx; subst hx; exact hdeep) hs]
    exact lm_deep _
  · rw [hk, gmatch_of (by rw [e1]; simp; omega) (fun x hx => by rw [e1] at hx; rw [List.eq_of_mem_replicate hx]; exact hstar) hs, e1]
    have := lm_stars [] (split s) [] hn
    rw [hk] at this
    simpa [lm] using this
  · rw [hk, gmatch_of (by rw [e2]; simp; omega) (fun x hx => by
      rw [e2] at hx
      rcases List.mem_append.1 hx with hx | hx
      · rw [List.eq_of_mem_replicate hx]; exact hstar
      · simp at hx; subst hx; exact hstar) hs, e2]
    have := lm_stars [[42]] (split s) [] hn
    rw [hk, List.append_nil] at this
    rw [this]; rfl
  · rw [hk, gmatch_of (by rw [e3]; simp; omega) (fun x hx => by
      rw [e3] at hx
      rcases List.mem_append.1 hx with hx | hx
      · rw [List.eq_of_mem_replicate hx]; exact hstar
      · simp at hx; subst hx; exact hdeep) hs, e3]
    have := lm_stars [[42, 42]] (split s) [] hn
    rw [hk, List.append_nil] at this
    rw [this]; rfl

end Go.Proofs.YtbjdgiocehoaiaaDoor.Sp
