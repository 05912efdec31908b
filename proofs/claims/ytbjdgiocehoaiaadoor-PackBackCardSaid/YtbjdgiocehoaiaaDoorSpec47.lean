/- What an archive is: plain. -/
import Derived.Test.YtbjdgiocehoaiaaDoorPathsC
import Derived.Test.YtbjdgiocehoaiaaDoorCommon
import Derived.Test.YtbjdgiocehoaiaaDoorCoderB
import Derived.Test.YtbjdgiocehoaiaaDoorSpec10
import Derived.Test.YtbjdgiocehoaiaaDoorSpecCrc
namespace Go.Proofs.YtbjdgiocehoaiaaDoor
namespace Sp
abbrev File := Bs × Bs
def pchk : Option Bs → List File → Int
  | _, [] => 0
  | p, f :: r => if check f.1 ≠ 0 then check f.1 else if 48 < f.2.length then 2 else match p with
    | none => pchk (some f.1) r
    | some q => if 0 ≤ compare q f.1 then 8 else pchk (some f.1) r
/-- Why files may not be. -/
def pcheck (l : List File) : Int := if 128 < l.length then 2 else pchk none l
def pbody : Bs → List File → W → W
  | _, [], x => x
  | last, f :: r, x => pbody f.1 r (wtext f.2 (wtext (f.1.drop (common last f.1)) (wnum (common last f.1) x)))
/-- What was written of files. -/
def pall (l : List File) : W := pbody [] l (wnum l.length (wfail (pcheck l) ([], 0)))
/-- An archive's bytes. -/
def pbytes (l : List File) : Bs × Int := if (pall l).2 ≠ 0 then ([], (pall l).2) else (sealed ([104, 97, 1] ++ (pall l).1), 0)
theorem wput_zero {is : Bool} {s : List UInt8} {x : W} (h : (wput is s x).2 = 0) : x.2 = 0 ∧ (wput is s x).1 = x.1 ++ s := by
  unfold wput at *
  by_cases h1 : x.2 = 0
  · rw [if_neg (by simpa using h1)] at h ⊢
    cases is with
    | true => exact ⟨h1, rfl⟩
    | false => simp at h
  · rw [if_pos (by simpa using h1)] at h; exact absurd h h1
theorem pbody_zero : ∀ (l : List File) (last : Bs) (x : W), (pbody last l x).2 = 0 → x.2 = 0 ∧ x.1.length ≤ (pbody last l x).1.length
  | [], _, _, h => ⟨h, Nat.le_refl _⟩
  | f :: r, last, x, h => by
    have h1 := pbody_zero r f.1 _ h
    have h2 := wput_zero h1.1
    have h3 := wput_zero h2.1
    have h4 := wput_zero h3.1
    refine ⟨h4.1, ?_⟩
    have e1 := congrArg List.length h2.2
    have e2 := congrArg List.length h3.2
    have e3 := congrArg List.length h4.2
    simp only [List.length_append] at e1 e2 e3
    have := h1.2
    simp only [pbody]
    unfold wtext wnum at *
    omega
theorem pall_ne (l : List File) (hl : l.length ≤ 1073741824) (h : (pall l).2 = 0) : (pall l).1 ≠ [] := by
  have h1 := pbody_zero l [] _ h
  have h2 := wput_zero h1.1
  have h3 : put (l.length : Int) ≠ [] := put_ne.2 (by omega)
  intro e
  have h4 := h1.2
  rw [show (pbody [] l (wnum l.length (wfail (pcheck l) ([], 0)))).1 = [] from e] at h4
  unfold wnum at h4
  rw [h2.2, List.length_append] at h4
  simp at h4
  exact h3 (List.eq_nil_of_length_eq_zero (by rw [h4.2]; rfl))
end Sp
end Go.Proofs.YtbjdgiocehoaiaaDoor
