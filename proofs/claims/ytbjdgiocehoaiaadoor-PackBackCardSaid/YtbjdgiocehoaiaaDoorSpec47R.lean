/- Which files an archive has: plain. -/
import Derived.Test.YtbjdgiocehoaiaaDoorSpec47
import Derived.Test.YtbjdgiocehoaiaaDoorCrcD
namespace Go.Proofs.YtbjdgiocehoaiaaDoor
namespace Sp
/-- A file as it is told. -/
abbrev Part := Nat × Bs × Bs
def pone (x : R) : Part × R := (((rnum 51 x).1, (rtext 51 (rnum 51 x).2).1, (rtext 48 (rtext 51 (rnum 51 x).2).2).1), (rtext 48 (rtext 51 (rnum 51 x).2).2).2)
def pparts : Nat → R → List Part × R
  | 0, x => ([], x)
  | m + 1, x => if (pone x).2.2 ≠ 0 then ([(pone x).1], (pone x).2) else ((pone x).1 :: (pparts m (pone x).2).1, (pparts m (pone x).2).2)
def pall2 (s : Bs) : List Part × R := pparts (rnum 128 (s, 0)).1 (rnum 128 (s, 0)).2
def lastP (acc : List File) : Bs := (acc.getLast?.map (·.1)).getD []
/-- The files of what was told. -/
def pgo : List File → List Part → List File × Int
  | acc, [] => (acc, 0)
  | acc, p :: r => if (lastP acc).length < p.1 then ([], 7) else if common (lastP acc) ((lastP acc).take p.1 ++ p.2.1) ≠ p.1 then ([], 7)
    else if check ((lastP acc).take p.1 ++ p.2.1) ≠ 0 then ([], check ((lastP acc).take p.1 ++ p.2.1))
    else if acc ≠ [] ∧ 0 ≤ compare (lastP acc) ((lastP acc).take p.1 ++ p.2.1) then ([], 8)
    else pgo (acc ++ [((lastP acc).take p.1 ++ p.2.1, p.2.2)]) r
/-- What stands behind the mark. -/
def popen (s : Bs) : Bs × Int := match opened s with
  | none => ([], 9)
  | some t => if t.length < 3 then ([], 5) else if t.take 3 ≠ [104, 97, 1] then ([], 7) else (t.drop 3, 0)
def pread (s : Bs) : List File × Int := if (popen s).2 ≠ 0 then ([], (popen s).2) else if rdone (pall2 (popen s).1).2 ≠ 0 then ([], rdone (pall2 (popen s).1).2) else pgo [] (pall2 (popen s).1).1
theorem pone_len (x : R) : (pone x).2.1.length ≤ x.1.length := by
  have h1 := rnum_len 51 x
  have h2 := rtext_len 51 (rnum 51 x).2
  have h3 := rtext_len 48 (rtext 51 (rnum 51 x).2).2
  unfold pone; simp only []; omega
theorem pone_small (x : R) : (pone x).1.1 ≤ 51 ∧ (pone x).1.2.1.length ≤ 51 ∧ (pone x).1.2.2.length ≤ 48 := by
  have h1 := rnum_most (most := 51) (by decide) x
  have h2 := rtext_most (most := 51) (by decide) (rnum 51 x).2
  have h3 := rtext_most (most := 48) (by decide) (rtext 51 (rnum 51 x).2).2
  unfold pone; simp only []; omega
theorem pparts_small : ∀ (m : Nat) (x : R), (pparts m x).1.length ≤ m ∧ ∀ p ∈ (pparts m x).1, p.1 ≤ 51 ∧ p.2.1.length ≤ 51 ∧ p.2.2.length ≤ 48
  | 0, _ => by simp [pparts]
  | m + 1, x => by
    have h := pparts_small m (pone x).2
    have h1 := pone_small x
    unfold pparts
    split
    · simp only [List.length_singleton, List.mem_singleton]
      exact ⟨by omega, fun p hp => by rw [hp]; exact h1⟩
    · simp only [List.length_cons, List.mem_cons]
      exact ⟨by omega, fun p hp => by
        rcases hp with rfl | hp
        · exact h1
        · exact h.2 p hp⟩
theorem pall2_small (s : Bs) : (pall2 s).1.length ≤ 128 ∧ ∀ p ∈ (pall2 s).1, p.1 ≤ 51 ∧ p.2.1.length ≤ 51 ∧ p.2.2.length ≤ 48 := by
  have h := pparts_small (rnum 128 (s, 0)).1 (rnum 128 (s, 0)).2
  have h1 := rnum_most (most := 128) (by decide) (s, 0)
  exact ⟨by unfold pall2; omega, h.2⟩
end Sp
end Go.Proofs.YtbjdgiocehoaiaaDoor
