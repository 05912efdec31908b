/- Walk: the statement BackoffPlays of chapter 27. -/
import Derived.Test.YtbjdgiocehoaiaaPBackoffPlaysx2
import Derived.Test.YtbjdgiocehoaiaaRegion
namespace Go.Proofs.Ytbjdgiocehoaiaa.Plays
open Go.RowKit Go.Proofs.Ytbjdgiocehoaiaa.PBackoffPlays Go.Proofs.YtbjdgiocehoaiaaW.PrintWords Go.Proofs.YtbjdgiocehoaiaaW.PrintLast

/-- The wait of try n. -/
def wv (n : Int) : Int := if n ≤ 0 then 2 else if n ≤ 1 then 4 else if n ≤ 2 then 8 else if n ≤ 3 then 16 else 32
theorem wv_ge (n : Int) : 2 ≤ wv n ∧ wv n ≤ 32 := by unfold wv; (repeat' split) <;> omega
theorem small_wrap (x : Int) (h0 : -9223372036854775808 ≤ x) (h1 : x ≤ 9223372036854775807) : wrap64 x = x := by
  unfold wrap64; omega
theorem wait_own (n : Int) (h0 : 0 ≤ n) (h1 : n ≤ 100) : backoff_Wait.f 6 n = some (wv n) := by
  have key : ∀ m : Fin 101, backoff_Wait.f 6 (m.val : Int) = some (wv (m.val : Int)) := by decide +kernel
  have := key ⟨n.toNat, by omega⟩
  rwa [show ((⟨n.toNat, by omega⟩ : Fin 101).val : Int) = n from by simp; omega] at this
theorem wait_ref (n : Int) (h0 : 0 ≤ n) (h1 : n ≤ 100) : hearsayref27_Wait.f 12 n = some (wv n) := by
  have key : ∀ m : Fin 101, hearsayref27_Wait.f 12 (m.val : Int) = some (wv (m.val : Int)) := by decide +kernel
  have := key ⟨n.toNat, by omega⟩
  rwa [show ((⟨n.toNat, by omega⟩ : Fin 101).val : Int) = n from by simp; omega] at this

/-- A timer: what it does (0 off, 1 waits, 2 rang), its tries, what is left; the document's is on if it isn't off. -/
structure St where
  d : Int
  t : Int
  a : Int
def St.ok (s : St) (i : Nat) : Prop := 0 ≤ s.t ∧ s.t ≤ i ∧ ((s.d = 0 ∧ s.a = 0) ∨ (s.d = 1 ∧ 1 ≤ s.a ∧ s.a ≤ 32) ∨ (s.d = 2 ∧ s.a = 0))
def St.on (s : St) : Bool := s.d != 0
def St.own (s : St) : Value := .agg #[.int .i64 s.d, .int .i64 s.t, .int .i64 s.a]
def St.ref (s : St) : Value := .agg #[.bool s.on, .int .i64 s.t, .int .i64 s.a]
def St.again (s : St) : St := if s.d = 0 then ⟨1, 0, 2⟩ else ⟨1, s.t + 1, wv (s.t + 1)⟩
def St.tick (s : St) (n : Int) : St × Bool := if s.d = 1 ∧ 1 ≤ n then (if n < s.a then (⟨1, s.t, s.a - n⟩, false) else (⟨2, s.t, 0⟩, true)) else (s, false)
theorem St.ok_again {s : St} {i : Nat} (h : s.ok i) : s.again.ok (i + 1) := by
  obtain ⟨h0, h1, h2⟩ := h
  have g := wv_ge (s.t + 1)
  unfold St.again St.ok
  split
  · simp; omega
  · simp; omega
theorem St.ok_tick {s : St} {i : Nat} (h : s.ok i) (n : Int) : (s.tick n).1.ok (i + 1) := by
  obtain ⟨h0, h1, h2⟩ := h
  unfold St.tick St.ok
  split
  · split <;> simp <;> omega
  · simp; omega

theorem again_own {s : St} {i : Nat} (h : s.ok i) (hi : i ≤ 60) (w : World) : Calls Try.prog 12 #[s.own] w fun e w' => e = .returned s.again.own ∧ Below w.heap.size w w' := by
  obtain ⟨h0, h1, h2⟩ := h
  refine backoff_Timer_Again.calls 6 s.d s.t s.a s.again.d s.again.t s.again.a w ?_
  have hs : backoff_Start.f 6 = some (1, 0, 2) := by decide +kernel
  unfold backoff_Timer_Again.f backoff_Timer_On.f St.again
  rw [small_wrap _ (by omega) (by omega), wait_own _ (by omega) (by omega), hs]
  by_cases hd : s.d = 0 <;> simp [hd]
theorem again_ref {s : St} {i : Nat} (h : s.ok i) (hi : i ≤ 60) (w : World) : Calls Try.prog 17 #[s.ref] w fun e w' => e = .returned s.again.ref ∧ Below w.heap.size w w' := by
  obtain ⟨h0, h1, h2⟩ := h
  refine hearsayref27_Again.calls 12 s.on s.t s.a s.again.on s.again.t s.again.a w ?_
  have hs : hearsayref27_Start.f 12 = some (true, 0, 2) := by decide +kernel
  unfold hearsayref27_Again.f St.again St.on
  rw [small_wrap _ (by omega) (by omega), wait_ref _ (by omega) (by omega), hs]
  by_cases hd : s.d = 0 <;> simp [hd]
theorem tick_own {s : St} {i : Nat} (h : s.ok i) (n : Int) (hn : 0 ≤ n) (w : World) : Calls Try.prog 15 #[s.own, .int .i64 n] w fun e w' => e = .returned (.tuple #[(s.tick n).1.own, .bool (s.tick n).2]) ∧ Below w.heap.size w w' := by
  obtain ⟨h0, h1, h2⟩ := h
  refine backoff_Timer_Tick.calls 6 s.d s.t s.a n (s.tick n).1.d (s.tick n).1.t (s.tick n).1.a (s.tick n).2 w ?_
  unfold backoff_Timer_Tick.f St.tick
  rcases h2 with ⟨hd, ha⟩ | ⟨hd, ha⟩ | ⟨hd, ha⟩
  · rw [if_neg (by omega), if_neg (by omega)]; simp only [backoff_Timer_Tick.j0]; simp
  · rw [if_pos hd]; simp only [backoff_Timer_Tick.j0]
    by_cases h3 : n < 1
    · rw [if_pos (by simpa using h3), if_neg (by omega)]
    · rw [if_neg (by simpa using h3)]
      by_cases h4 : n < s.a
      · rw [if_pos h4, if_pos (show s.d = 1 ∧ 1 ≤ n by omega), if_pos h4, small_wrap _ (by omega) (by omega), hd]
      · rw [if_neg h4, if_pos (show s.d = 1 ∧ 1 ≤ n by omega), if_neg h4]
  · rw [if_neg (by omega), if_neg (by omega)]; simp only [backoff_Timer_Tick.j0]; simp
theorem tick_ref {s : St} {i : Nat} (h : s.ok i) (n : Int) (hn : 0 ≤ n) (w : World) : Calls Try.prog 18 #[s.ref, .int .i64 n] w fun e w' => e = .returned (.tuple #[(s.tick n).1.ref, .bool (s.tick n).2]) ∧ Below w.heap.size w w' := by
  obtain ⟨h0, h1, h2⟩ := h
  refine hearsayref27_Tick.calls s.on s.t s.a n (s.tick n).1.on (s.tick n).1.t (s.tick n).1.a (s.tick n).2 w ?_
  unfold hearsayref27_Tick.f St.tick St.on
  rcases h2 with ⟨hd, ha⟩ | ⟨hd, ha⟩ | ⟨hd, ha⟩
  · rw [if_neg (show ¬ (s.d = 1 ∧ 1 ≤ n) by omega)]; simp [hd]
  · by_cases h3 : n > 0
    · by_cases h4 : n < s.a
      · rw [if_pos (show s.d = 1 ∧ 1 ≤ n by omega), if_pos h4]
        simp only [hd, h3, mn, if_true, if_pos (show s.a > 0 by omega), if_neg (show ¬ s.a < n by omega), small_wrap (s.a - n) (by omega) (by omega), show decide (n ≥ s.a) = false from decide_eq_false (by omega)]
        rfl
      · rw [if_pos (show s.d = 1 ∧ 1 ≤ n by omega), if_neg h4]
        have e : (if s.a < n then s.a else n) = s.a := by split <;> omega
        simp only [hd, h3, mn, if_true, if_pos (show s.a > 0 by omega), e, show decide (n ≥ s.a) = true from decide_eq_true (by omega), show s.a - s.a = 0 by omega, small_wrap 0 (by omega) (by omega)]
        rfl
    · rw [if_neg (show ¬ (s.d = 1 ∧ 1 ≤ n) by omega)]; simp [hd, h3]; omega
  · rw [if_neg (show ¬ (s.d = 1 ∧ 1 ≤ n) by omega)]
    simp [hd, ha, mn]
    intro h; rw [if_pos h]; exact small_wrap _ (by omega) (by omega)
theorem spent_own {s : St} (w : World) : Calls Try.prog 20 #[s.own] w fun e w' => e = .returned (.bool (s.on && decide (s.t ≥ 4))) ∧ Below w.heap.size w w' := by
  refine backoff_Timer_Spent.calls s.d s.t s.a _ w ?_
  unfold backoff_Timer_Spent.f backoff_Timer_On.f St.on
  cases h : s.d != 0 <;> simp
theorem on_own {s : St} (w : World) : Calls Try.prog 19 #[s.own] w fun e w' => e = .returned (.bool s.on) ∧ Below w.heap.size w w' := backoff_Timer_On.calls s.d s.t s.a _ w rfl
theorem tries_own {s : St} (w : World) : Calls Try.prog 14 #[s.own] w fun e w' => e = .returned (.int .i64 s.t) ∧ Below w.heap.size w w' := backoff_Timer_Tries.calls s.d s.t s.a _ w rfl
theorem left_own {s : St} (w : World) : Calls Try.prog 13 #[s.own] w fun e w' => e = .returned (.int .i64 s.a) ∧ Below w.heap.size w w' := backoff_Timer_Left.calls s.d s.t s.a _ w rfl
theorem awake_own (w : World) : Calls Try.prog 10 #[] w fun e w' => e = .returned (.bool true) ∧ Below w.heap.size w w' := hearsaylaw27_awake.calls 20 true w (by decide +kernel)
end Go.Proofs.Ytbjdgiocehoaiaa.Plays
