/- The statement BackoffWaits of chapter 27 over numbers alone: how long any try waits, and any tries together, is the document's answer; no wait is longer than the next one, or than the longest. No condition. -/
import Derived.Test.YtbjdgiocehoaiaaPBackoffWaitsx2
namespace Go.Proofs.Ytbjdgiocehoaiaa.Pure
open Go.RowKit Go.Proofs.Ytbjdgiocehoaiaa.PBackoffWaits Go.Proofs.YtbjdgiocehoaiaaW.PrintWords Go.Proofs.YtbjdgiocehoaiaaW.PrintLast

/-- The wait of try n. -/
def wv (n : Int) : Int := if n ≤ 0 then 2 else if n ≤ 1 then 4 else if n ≤ 2 then 8 else if n ≤ 3 then 16 else 32

theorem small_wrap (x : Int) (h0 : -9223372036854775808 ≤ x) (h1 : x ≤ 9223372036854775807) : wrap64 x = x := by
  unfold wrap64; omega

theorem wait_stop0 (k : Nat) (n w : Int) (h : n ≤ 0) : backoff_Wait.l0 (k + 1) n w = some w := by
  simp only [backoff_Wait.l0]; rw [if_neg (by omega)]
theorem wait_stop1 (k : Nat) (n w : Int) (h : 32 ≤ w) : backoff_Wait.l0 (k + 1) n w = some w := by
  simp only [backoff_Wait.l0]
  by_cases c : n > 0
  · rw [if_pos c, if_neg (by omega)]
  · rw [if_neg c]
theorem wait_go (k : Nat) (n w : Int) (h : 0 < n) (hn : n ≤ 9223372036854775807) (hw : w < 32) (hw0 : 0 ≤ w) : backoff_Wait.l0 (k + 1) n w = backoff_Wait.l0 k (n - 1) (w * 2) := by
  simp only [backoff_Wait.l0]; rw [if_pos h, if_pos hw, small_wrap _ (by omega) (by omega), small_wrap _ (by omega) (by omega)]

theorem wait_own (k : Nat) (n : Int) (hn : n ≤ 9223372036854775807) : backoff_Wait.f (k + 6) n = some (wv n) := by
  unfold backoff_Wait.f wv
  by_cases a0 : n ≤ 0
  · rw [wait_stop0 _ _ _ a0, if_pos a0]
  rw [if_neg a0, wait_go _ _ _ (by omega) hn (by omega) (by omega)]
  by_cases a1 : n ≤ 1
  · rw [wait_stop0 _ _ _ (by omega), if_pos a1]; rfl
  rw [if_neg a1, wait_go _ _ _ (by omega) (by omega) (by omega) (by omega)]
  by_cases a2 : n ≤ 2
  · rw [wait_stop0 _ _ _ (by omega), if_pos a2]; rfl
  rw [if_neg a2, wait_go _ _ _ (by omega) (by omega) (by omega) (by omega)]
  by_cases a3 : n ≤ 3
  · rw [wait_stop0 _ _ _ (by omega), if_pos a3]; rfl
  rw [if_neg a3, wait_go _ _ _ (by omega) (by omega) (by omega) (by omega), wait_stop1 _ _ _ (by omega)]; rfl

theorem ref_go (k : Nat) (n w i : Int) (h : i < n) (hi : i < 10) (h0 : 0 ≤ i) (hw : w < 2048) (hw0 : 0 ≤ w) : hearsayref27_Wait.l0 (k + 1) n w i = hearsayref27_Wait.l0 k n (w * 2) (i + 1) := by
  simp only [hearsayref27_Wait.l0]; rw [if_pos h, if_pos hi, small_wrap _ (by omega) (by omega), small_wrap _ (by omega) (by omega)]
theorem ref_stop0 (k : Nat) (n w i : Int) (h : n ≤ i) : hearsayref27_Wait.l0 (k + 1) n w i = some (mn w 32) := by
  simp only [hearsayref27_Wait.l0]; rw [if_neg (by omega)]
theorem ref_stop1 (k : Nat) (n w i : Int) (h : 10 ≤ i) : hearsayref27_Wait.l0 (k + 1) n w i = some (mn w 32) := by
  simp only [hearsayref27_Wait.l0]
  by_cases c : i < n
  · rw [if_pos c, if_neg (by omega)]
  · rw [if_neg c]

theorem wait_ref (k : Nat) (n : Int) : hearsayref27_Wait.f (k + 12) n = some (wv n) := by
  unfold hearsayref27_Wait.f wv
  by_cases a0 : n ≤ 0
  · rw [ref_stop0 _ _ _ _ a0, if_pos a0]; rfl
  rw [if_neg a0, ref_go _ _ _ _ (by omega) (by omega) (by omega) (by omega) (by omega)]
  by_cases a1 : n ≤ 1
  · rw [ref_stop0 _ _ _ _ (by omega), if_pos a1]; rfl
  rw [if_neg a1, ref_go _ _ _ _ (by omega) (by omega) (by omega) (by omega) (by omega)]
  by_cases a2 : n ≤ 2
  · rw [ref_stop0 _ _ _ _ (by omega), if_pos a2]; rfl
  rw [if_neg a2, ref_go _ _ _ _ (by omega) (by omega) (by omega) (by omega) (by omega)]
  by_cases a3 : n ≤ 3
  · rw [ref_stop0 _ _ _ _ (by omega), if_pos a3]; rfl
  rw [if_neg a3, ref_go _ _ _ _ (by omega) (by omega) (by omega) (by omega) (by omega)]
  by_cases a4 : n ≤ 4
  · rw [ref_stop0 _ _ _ _ (by omega)]; rfl
  rw [ref_go _ _ _ _ (by omega) (by omega) (by omega) (by omega) (by omega)]
  by_cases a5 : n ≤ 5
  · rw [ref_stop0 _ _ _ _ (by omega)]; rfl
  rw [ref_go _ _ _ _ (by omega) (by omega) (by omega) (by omega) (by omega)]
  by_cases a6 : n ≤ 6
  · rw [ref_stop0 _ _ _ _ (by omega)]; rfl
  rw [ref_go _ _ _ _ (by omega) (by omega) (by omega) (by omega) (by omega)]
  by_cases a7 : n ≤ 7
  · rw [ref_stop0 _ _ _ _ (by omega)]; rfl
  rw [ref_go _ _ _ _ (by omega) (by omega) (by omega) (by omega) (by omega)]
  by_cases a8 : n ≤ 8
  · rw [ref_stop0 _ _ _ _ (by omega)]; rfl
  rw [ref_go _ _ _ _ (by omega) (by omega) (by omega) (by omega) (by omega)]
  by_cases a9 : n ≤ 9
  · rw [ref_stop0 _ _ _ _ (by omega)]; rfl
  rw [ref_go _ _ _ _ (by omega) (by omega) (by omega) (by omega) (by omega)]
  rw [ref_stop1 _ _ _ _ (by omega)]; rfl

theorem sums (d : Nat) : ∀ (k : Nat) (n s i : Int), n ≤ 9223372036854775807 → 0 ≤ i → mx 0 (mn n 1000) - i = d → ∃ r, backoff_Sum.l0 (k + 14 + d) s (mx 0 (mn n 1000)) i = some r ∧ hearsayref27_Sum.l0 (k + 14 + d) n s i = some r := by
  induction d with
  | zero =>
    intro k n s i hn h0 hd
    have hm : mx 0 (mn n 1000) = i := by omega
    refine ⟨s, ?_, ?_⟩
    · rw [show k + 14 + 0 = (k + 13) + 1 from rfl]; simp only [backoff_Sum.l0]; rw [if_neg (by omega)]
    · rw [show k + 14 + 0 = (k + 13) + 1 from rfl]; simp only [hearsayref27_Sum.l0]
      unfold mx mn at hm
      by_cases c : i < n
      · rw [if_pos c]
        rw [if_neg]
        (repeat' split at hm) <;> omega
      · rw [if_neg c]
  | succ d ih =>
    intro k n s i hn h0 hd
    have hm : i < n ∧ i < 1000 := by
      unfold mx mn at hd
      (repeat' split at hd) <;> omega
    obtain ⟨r, h1, h2⟩ := ih k n (wrap64 (s + wv i)) (i + 1) hn (by omega) (by omega)
    refine ⟨r, ?_, ?_⟩
    · rw [show k + 14 + (d + 1) = (k + 14 + d) + 1 from by omega]; simp only [backoff_Sum.l0]
      rw [if_pos (by omega), show k + 14 + d = (k + 8 + d) + 6 from by omega, wait_own _ _ (by omega)]
      simp only [Option.bind_some]
      rw [small_wrap (i + 1) (by omega) (by omega), show (k + 8 + d) + 6 = k + 14 + d from by omega]; exact h1
    · rw [show k + 14 + (d + 1) = (k + 14 + d) + 1 from by omega]; simp only [hearsayref27_Sum.l0]
      rw [if_pos hm.1, if_pos hm.2, show k + 14 + d = (k + 2 + d) + 12 from by omega, wait_ref]
      simp only [Option.bind_some]
      rw [small_wrap (i + 1) (by omega) (by omega), show (k + 2 + d) + 12 = k + 14 + d from by omega]; exact h2

theorem awake_rounds (k : Nat) (h : 20 ≤ k) : hearsaylaw27_awake.f k = some true :=
  at_rounds hearsaylaw27_awake.mono h (by decide +kernel)

theorem wv_ge (n : Int) : 2 ≤ wv n ∧ wv n ≤ 32 := by unfold wv; (repeat' split) <;> omega
theorem wv_next (n : Int) : wv n ≤ wv (n + 1) := by unfold wv; (repeat' split) <;> omega

theorem BackoffWaits : hearsaylaw27_BackoffWaits.Pure := by
  intro n hwf
  have hb : n ≤ 9223372036854775807 := by
    have h := hwf; simp [Lit.wf, IntKind.min, IntKind.max, IntKind.signed, IntKind.bits] at h; omega
  obtain ⟨r, h1, h2⟩ := sums (mx 0 (mn n 1000)).toNat 20 n 0 0 hb (by omega) (by unfold mx; split <;> omega)
  refine ⟨20 + 14 + (mx 0 (mn n 1000)).toNat, ?_⟩
  generalize hK : 20 + 14 + (mx 0 (mn n 1000)).toNat = K at *
  have e1 : ∀ m : Int, m ≤ 9223372036854775807 → backoff_Wait.f K m = some (wv m) := by
    intro m hm; rw [show K = (K - 6) + 6 from by omega]; exact wait_own _ _ hm
  have e2 : hearsayref27_Wait.f K n = some (wv n) := by
    rw [show K = (K - 12) + 12 from by omega]; exact wait_ref _ _
  have e3 : backoff_Sum.f K n = some r := h1
  have e4 : hearsayref27_Sum.f K n = some r := h2
  have e5 := awake_rounds K (by omega)
  have g := wv_ge n
  have g' := wv_next n
  unfold hearsaylaw27_BackoffWaits.f
  rw [e1 n hb, e2, e3, e4, e5]
  simp only [Option.bind_some, if_true]
  rw [if_pos g.1, if_pos g.2]
  by_cases a : n ≥ 1000
  · rw [if_pos a]
  · rw [if_neg a]
    by_cases b : n < 0
    · rw [if_pos b]
    · rw [if_neg b, small_wrap _ (by omega) (by omega), e1 _ (by omega)]
      simp only [Option.bind_some]
      rw [if_pos g']

end Go.Proofs.Ytbjdgiocehoaiaa.Pure
