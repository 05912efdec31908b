/- The statement BackoffRings of chapter 27 over numbers and lists alone: a timer rings once, when just its wait went by, however ticks are cut. No condition. -/
import Derived.Test.YtbjdgiocehoaiaaPBackoffRingsx2
namespace Go.Proofs.Ytbjdgiocehoaiaa.Pure
open Go.RowKit Go.Proofs.Ytbjdgiocehoaiaa.PBackoffRings Go.Proofs.YtbjdgiocehoaiaaW.PrintWords Go.Proofs.YtbjdgiocehoaiaaW.PrintLast

/-- The wait of try n. -/
def wv (n : Int) : Int := if n ≤ 0 then 2 else if n ≤ 1 then 4 else if n ≤ 2 then 8 else if n ≤ 3 then 16 else 32

theorem small_wrap (x : Int) (h0 : -9223372036854775808 ≤ x) (h1 : x ≤ 9223372036854775807) : wrap64 x = x := by
  unfold wrap64; omega

theorem wait_stop0 (k : Nat) (n w : Int) (h : n ≤ 0) : backoff_Wait.l0 (k + 1) n w = some w := by
  simp only [backoff_Wait.l0]; rw [if_neg (by omega)]
theorem wait_stop1 (k : Nat) (n w : Int) (h : 32 ≤ w) : backoff_Wait.l0 (k + 1) n w = some w := by
  simp only [backoff_Wait.l0]
  by_cases c : n > 0
  · rw [if_pos c, if_neg (by omega)]
  · rw [if_neg c]
theorem wait_go (k : Nat) (n w : Int) (h : 0 < n) (hn : n ≤ 9223372036854775807) (hw : w < 32) (hw0 : 0 ≤ w) : backoff_Wait.l0 (k + 1) n w = backoff_Wait.l0 k (n - 1) (w * 2) := by
  simp only [backoff_Wait.l0]; rw [if_pos h, if_pos hw, small_wrap _ (by omega) (by omega), small_wrap _ (by omega) (by omega)]

theorem wait_own (k : Nat) (n : Int) (hn : n ≤ 9223372036854775807) : backoff_Wait.f (k + 6) n = some (wv n) := by
  unfold backoff_Wait.f wv
  by_cases a0 : n ≤ 0
  · rw [wait_stop0 _ _ _ a0, if_pos a0]
  rw [if_neg a0, wait_go _ _ _ (by omega) hn (by omega) (by omega)]
  by_cases a1 : n ≤ 1
  · rw [wait_stop0 _ _ _ (by omega), if_pos a1]; rfl
  rw [if_neg a1, wait_go _ _ _ (by omega) (by omega) (by omega) (by omega)]
  by_cases a2 : n ≤ 2
  · rw [wait_stop0 _ _ _ (by omega), if_pos a2]; rfl
  rw [if_neg a2, wait_go _ _ _ (by omega) (by omega) (by omega) (by omega)]
  by_cases a3 : n ≤ 3
  · rw [wait_stop0 _ _ _ (by omega), if_pos a3]; rfl
  rw [if_neg a3, wait_go _ _ _ (by omega) (by omega) (by omega) (by omega), wait_stop1 _ _ _ (by omega)]; rfl

theorem wv_ge (n : Int) : 2 ≤ wv n ∧ wv n ≤ 32 := by unfold wv; (repeat' split) <;> omega

theorem awake_rounds (k : Nat) (h : 20 ≤ k) : hearsaylaw27_awake.f k = some true :=
  at_rounds hearsaylaw27_awake.mono h (by decide +kernel)

theorem again (k : Nat) (h : 6 ≤ k) (T a : Int) (h0 : 0 ≤ T) (h1 : T ≤ 100) : backoff_Timer_Again.f k 1 T a = some (1, T + 1, wv (T + 1)) := by
  unfold backoff_Timer_Again.f backoff_Timer_On.f
  rw [small_wrap _ (by omega) (by omega), show k = (k - 6) + 6 from by omega, wait_own _ _ (by omega)]; rfl

theorem tick_still (k : Nat) (T a n : Int) (h : n < 1) : backoff_Timer_Tick.f (k + 1) 1 T a n = some (1, T, a, false) := by
  unfold backoff_Timer_Tick.f
  rw [if_pos rfl]; simp only [backoff_Timer_Tick.j0]; rw [if_pos (by simpa using h)]
theorem tick_less (k : Nat) (T a n : Int) (h : 1 ≤ n) (ha : n < a) (hb : a ≤ 32) : backoff_Timer_Tick.f (k + 1) 1 T a n = some (1, T, a - n, false) := by
  unfold backoff_Timer_Tick.f
  rw [if_pos rfl]; simp only [backoff_Timer_Tick.j0]; rw [if_neg (by simp; omega), if_pos ha, small_wrap _ (by omega) (by omega)]
theorem tick_rings (k : Nat) (T a n : Int) (h : 1 ≤ n) (ha : a ≤ n) : backoff_Timer_Tick.f (k + 1) 1 T a n = some (2, T, 0, true) := by
  unfold backoff_Timer_Tick.f
  rw [if_pos rfl]; simp only [backoff_Timer_Tick.j0]; rw [if_neg (by simp; omega), if_neg (by omega)]
theorem tick_rang (k : Nat) (T a n : Int) : backoff_Timer_Tick.f (k + 1) 2 T a n = some (2, T, a, false) := by
  unfold backoff_Timer_Tick.f
  rw [if_neg (by omega)]; simp only [backoff_Timer_Tick.j0]; rw [if_pos trivial]

/-- What is drawn of an element: under 20. -/
theorem draw (x : Int) : 0 ≤ wrap64 (Int.tmod (IntKind.u64.wrap x) 20) ∧ wrap64 (Int.tmod (IntKind.u64.wrap x) 20) < 20 := by
  have h0 : 0 ≤ IntKind.u64.wrap x := by rw [IntKind.wrap_u64]; omega
  have h1 : 0 ≤ Int.tmod (IntKind.u64.wrap x) 20 ∧ Int.tmod (IntKind.u64.wrap x) 20 < 20 := by
    rw [Int.tmod_eq_emod_of_nonneg h0]; omega
  rw [small_wrap _ (by omega) (by omega)]; exact h1

theorem l1_step (k : Nat) (l : List Int) (wait gone rings i s T left : Int) : hearsaylaw27_BackoffRings.l1 (k + 1) l wait gone rings i s T left = (if i < (l.length : Int) then (hearsaylaw27_BackoffRings.j2 k l wait gone rings i (decide (i < 60)) s T left) else (hearsaylaw27_BackoffRings.j2 k l wait gone rings i false s T left)) := by
  rw [hearsaylaw27_BackoffRings.l1]
theorem l0_step (k : Nat) (x : Int) (l : List Int) (i s T a : Int) : hearsaylaw27_BackoffRings.l0 (k + 1) x l i s T a = (if i < (wrap64 (Int.tmod (IntKind.u64.wrap (x)) 8)) then ((backoff_Timer_Again.f k s T a).bind fun bt136 => (hearsaylaw27_BackoffRings.l0 k x l (wrap64 (i + 1)) bt136.1 bt136.2.1 bt136.2.2)) else ((backoff_Wait.f k T).bind fun t141 => (if a = t141 then (hearsaylaw27_BackoffRings.l1 k l a 0 0 0 s T a) else (some false)))) := by
  rw [hearsaylaw27_BackoffRings.l0]; rfl
theorem j2_step (k : Nat) (x1 : List Int) (x7 x8 x9 x10 : Int) (b : Bool) (s T a : Int) (h0 : 0 ≤ x10) (h1 : x10 < (x1.length : Int)) (hb : b = true) (n : Int) (hn : wrap64 (Int.tmod (IntKind.u64.wrap (rd x1 x10)) 20) = n) : hearsaylaw27_BackoffRings.j2 (k + 1) x1 x7 x8 x9 x10 b s T a = ((backoff_Timer_Tick.f k s T a n).bind fun bt144 => (if bt144.2.2.2 = true then (if (wrap64 (x8 + n)) < x7 then (some false) else (if (wrap64 ((wrap64 (x8 + n)) - n)) ≥ x7 then (some false) else (if (wrap64 (x9 + 1)) > 1 then (some false) else (if (((wrap64 (x9 + 1)) == 1) != (decide ((wrap64 (x8 + n)) ≥ x7))) = true then (some false) else (hearsaylaw27_BackoffRings.l1 k x1 x7 (wrap64 (x8 + n)) (wrap64 (x9 + 1)) (wrap64 (x10 + 1)) bt144.1 bt144.2.1 bt144.2.2.1))))) else (if x9 > 1 then (some false) else (if ((x9 == 1) != (decide ((wrap64 (x8 + n)) ≥ x7))) = true then (some false) else (hearsaylaw27_BackoffRings.l1 k x1 x7 (wrap64 (x8 + n)) x9 (wrap64 (x10 + 1)) bt144.1 bt144.2.1 bt144.2.2.1))))) := by
  rw [hearsaylaw27_BackoffRings.j2, if_pos hb, if_pos h0, if_pos h1]; simp only [hn]

/-- The ticks: before it rang, what went by and what is left are the wait; behind, the wait went by. -/
theorem ticks (d : Nat) : ∀ (k : Nat) (l : List Int) (wait gone i T left : Int), 2 ≤ wait → wait ≤ 32 → 0 ≤ i → 60 - i = d → 0 ≤ gone → gone ≤ 20 * i → gone + left = wait → 1 ≤ left →
    hearsaylaw27_BackoffRings.l1 (k + 22 + 2 * d) l wait gone 0 i 1 T left = some true ∧
    ∀ gone', wait ≤ gone' → gone' ≤ 20 * i → hearsaylaw27_BackoffRings.l1 (k + 22 + 2 * d) l wait gone' 1 i 2 T 0 = some true := by
  induction d with
  | zero =>
    intro k l wait gone i T left _ _ _ hd _ _ _ _
    have key : ∀ g r s a, hearsaylaw27_BackoffRings.l1 (k + 22 + 2 * 0) l wait g r i s T a = some true := by
      intro g r s a
      obtain ⟨m, hm, hm'⟩ : ∃ m, k + 22 + 2 * 0 = m + 1 + 1 ∧ 20 ≤ m := ⟨k + 20, by omega, by omega⟩
      rw [hm]
      simp only [hearsaylaw27_BackoffRings.l1, hearsaylaw27_BackoffRings.j2]
      rw [awake_rounds _ (by omega)]
      have e : decide (i < 60) = false := by simp; omega
      rw [e]; simp
    exact ⟨key _ _ _ _, fun _ _ _ => key _ _ _ _⟩
  | succ d ih =>
    intro k l wait gone i T left hw0 hw1 hi hd hg0 hg1 hgl hl
    have ih := fun l wait gone i T left => ih k l wait gone i T left
    rw [show k + 22 + 2 * (d + 1) = (k + 22 + 2 * d) + 1 + 1 from by omega]
    obtain ⟨m, hm, hm'⟩ : ∃ m, k + 22 + 2 * d = m + 1 ∧ 20 ≤ m := ⟨k + 21 + 2 * d, by omega, by omega⟩
    rw [hm] at ih ⊢
    by_cases c : i < (l.length : Int)
    · obtain ⟨n0, n1⟩ := draw (rd l i)
      have hdec : decide (i < 60) = true := by simp; omega
      obtain ⟨n, hn⟩ : ∃ n, wrap64 (Int.tmod (IntKind.u64.wrap (rd l i)) 20) = n := ⟨_, rfl⟩
      rw [hn] at n0 n1
      simp only [l1_step (m + 1 + 1), if_pos c, j2_step (m + 1) l wait _ _ i _ _ _ _ hi c hdec n hn]
      have hi1 : wrap64 (i + 1) = i + 1 := small_wrap _ (by omega) (by omega)
      refine ⟨?_, ?_⟩
      · have hgn : wrap64 (gone + n) = gone + n := small_wrap _ (by omega) (by omega)
        rw [hgn, hi1]
        by_cases c0 : n < 1
        · rw [tick_still _ _ _ _ c0]
          simp only [Option.bind_some]
          rw [if_neg (by simp), if_neg (by omega), if_neg (by simp; omega)]
          exact (ih l wait (gone + n) (i + 1) T left hw0 hw1 (by omega) (by omega) (by omega) (by omega) (by omega) (by omega)).1
        · by_cases c1 : n < left
          · rw [tick_less _ _ _ _ (by omega) c1 (by omega)]
            simp only [Option.bind_some]
            rw [if_neg (by simp), if_neg (by omega), if_neg (by simp; omega)]
            exact (ih l wait (gone + n) (i + 1) T (left - n) hw0 hw1 (by omega) (by omega) (by omega) (by omega) (by omega) (by omega)).1
          · rw [tick_rings _ _ _ _ (by omega) (by omega)]
            simp only [Option.bind_some]
            rw [if_pos trivial, if_neg (by omega), small_wrap (gone + n - n) (by omega) (by omega), if_neg (by omega), small_wrap (0 + 1) (by omega) (by omega), if_neg (by omega), if_neg (by simp; omega)]
            exact (ih l wait 0 (i + 1) T wait hw0 hw1 (by omega) (by omega) (by omega) (by omega) (by omega) (by omega)).2 (gone + n) (by omega) (by omega)
      · intro gone' hg2 hg3
        have hgn : wrap64 (gone' + n) = gone' + n := small_wrap _ (by omega) (by omega)
        rw [hgn, hi1, tick_rang]
        simp only [Option.bind_some]
        rw [if_neg (by simp), if_neg (by omega), if_neg (by simp; omega)]
        exact (ih l wait 0 (i + 1) T wait hw0 hw1 (by omega) (by omega) (by omega) (by omega) (by omega) (by omega)).2 (gone' + n) (by omega) (by omega)
    · have key : ∀ g r s a, hearsaylaw27_BackoffRings.l1 (m + 1 + 1 + 1) l wait g r i s T a = some true := by
        intro g r s a
        simp only [hearsaylaw27_BackoffRings.l1, hearsaylaw27_BackoffRings.j2]
        rw [awake_rounds _ (by omega), if_neg c]; simp
      exact ⟨key _ _ _ _, fun _ _ _ => key _ _ _ _⟩

/-- The tries. -/
theorem tries (d : Nat) : ∀ (k : Nat) (x : Int) (l : List Int) (i : Int), 0 ≤ i → i ≤ 7 → wrap64 (Int.tmod (IntKind.u64.wrap x) 8) - i = d → hearsaylaw27_BackoffRings.l0 (k + 150 + d) x l i 1 i (wv i) = some true := by
  have hx : ∀ x, 0 ≤ wrap64 (Int.tmod (IntKind.u64.wrap x) 8) ∧ wrap64 (Int.tmod (IntKind.u64.wrap x) 8) < 8 := by
    intro x
    have h0 : 0 ≤ IntKind.u64.wrap x := by rw [IntKind.wrap_u64]; omega
    have h1 : 0 ≤ Int.tmod (IntKind.u64.wrap x) 8 ∧ Int.tmod (IntKind.u64.wrap x) 8 < 8 := by
      rw [Int.tmod_eq_emod_of_nonneg h0]; omega
    rw [small_wrap _ (by omega) (by omega)]; exact h1
  induction d with
  | zero =>
    intro k x l i h0 h1 hd
    have g := wv_ge i
    obtain ⟨m, hm⟩ : ∃ m, m = k + 143 := ⟨_, rfl⟩
    rw [show k + 150 + 0 = (m + 6) + 1 from by omega, l0_step, if_neg (by omega), wait_own _ _ (by omega)]
    simp only [Option.bind_some, if_true]
    rw [show m + 6 = (k + 7) + 22 + 2 * 60 from by omega]
    exact (ticks 60 (k + 7) l (wv i) 0 0 i (wv i) g.1 g.2 (by omega) (by omega) (by omega) (by omega) (by omega) (by omega)).1
  | succ d ih =>
    intro k x l i h0 h1 hd
    have := hx x
    rw [show k + 150 + (d + 1) = (k + 150 + d) + 1 from by omega, l0_step]
    rw [if_pos (by omega), again _ (by omega) _ _ h0 (by omega), small_wrap (i + 1) (by omega) (by omega)]
    simp only [Option.bind_some]
    exact ih k x l (i + 1) (by omega) (by omega) (by omega)

theorem BackoffRings : hearsaylaw27_BackoffRings.Pure := by
  intro x l _ _ _ _
  have h0 : 0 ≤ wrap64 (Int.tmod (IntKind.u64.wrap x) 8) := by
    have h0 : 0 ≤ IntKind.u64.wrap x := by rw [IntKind.wrap_u64]; omega
    have h1 : 0 ≤ Int.tmod (IntKind.u64.wrap x) 8 ∧ Int.tmod (IntKind.u64.wrap x) 8 < 8 := by
      rw [Int.tmod_eq_emod_of_nonneg h0]; omega
    rw [small_wrap _ (by omega) (by omega)]; exact h1.1
  refine ⟨0 + 150 + (wrap64 (Int.tmod (IntKind.u64.wrap x) 8)).toNat, ?_⟩
  have t := tries (wrap64 (Int.tmod (IntKind.u64.wrap x) 8)).toNat 0 x l 0 (by omega) (by omega) (by omega)
  unfold hearsaylaw27_BackoffRings.f backoff_Start.f
  rw [show 0 + 150 + (wrap64 (Int.tmod (IntKind.u64.wrap x) 8)).toNat = (144 + (wrap64 (Int.tmod (IntKind.u64.wrap x) 8)).toNat) + 6 from by omega, wait_own _ _ (by omega)]
  simp only [Option.bind_some]
  rw [show (144 + (wrap64 (Int.tmod (IntKind.u64.wrap x) 8)).toNat) + 6 = 0 + 150 + (wrap64 (Int.tmod (IntKind.u64.wrap x) 8)).toNat from by omega]
  exact t

end Go.Proofs.Ytbjdgiocehoaiaa.Pure
