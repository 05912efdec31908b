/- What was packed is read, and what is read is packed: plain. -/
import Derived.Test.YtbjdgiocehoaiaaDoorSpec01B
import Derived.Test.YtbjdgiocehoaiaaDoorSpec47R
import Derived.Test.YtbjdgiocehoaiaaDoorPackC
namespace Go.Proofs.YtbjdgiocehoaiaaDoor
namespace Sp
/-- A told file's bytes. -/
def encP (p : Part) : List UInt8 := put (p.1 : Int) ++ ((put (p.2.1.length : Int) ++ p.2.1) ++ (put (p.2.2.length : Int) ++ p.2.2))
def enc (ps : List Part) : List UInt8 := ps.flatMap encP
/-- Files, as they are told behind a path. -/
def partsOf : Bs → List File → List Part
  | _, [] => []
  | last, f :: r => (common last f.1, f.1.drop (common last f.1), f.2) :: partsOf f.1 r
def small (p : Part) : Prop := p.1 ≤ 51 ∧ p.2.1.length ≤ 51 ∧ p.2.2.length ≤ 48
theorem wput_ok (s b : List UInt8) : wput true s (b, 0) = (b ++ s, 0) := by unfold wput; rw [if_neg (by simp)]; rfl
theorem wnum_ok (n : Nat) (b : List UInt8) (h : n ≤ 1073741824) : wnum (n : Int) (b, 0) = (b ++ put (n : Int), 0) := by
  unfold wnum; rw [decide_eq_true (by omega)]; exact wput_ok _ _
theorem wtext_ok (t b : List UInt8) (h : t.length ≤ 65536) : wtext t (b, 0) = (b ++ (put (t.length : Int) ++ t), 0) := by
  unfold wtext; rw [decide_eq_true h]; exact wput_ok _ _
theorem pbody_enc : ∀ (l : List File) (last b : Bs), (∀ f ∈ l, f.1.length ≤ 60000 ∧ f.2.length ≤ 60000) → pbody last l (b, 0) = (b ++ enc (partsOf last l), 0)
  | [], _, b, _ => by simp [pbody, partsOf, enc]
  | f :: r, last, b, h => by
    have hf := h f (by simp)
    have hc := (common_le last f.1).2
    rw [pbody, wnum_ok _ _ (by omega), wtext_ok _ _ (by rw [List.length_drop]; omega), wtext_ok _ _ (by omega), pbody_enc r f.1 _ (fun g hg => h g (by simp [hg]))]
    simp [partsOf, enc, encP, List.append_assoc]
theorem pone_enc (p : Part) (r : List UInt8) (h : small p) : pone (encP p ++ r, 0) = (p, (r, 0)) := by
  obtain ⟨h1, h2, h3⟩ := h
  have e1 : rnum 51 (encP p ++ r, 0) = (p.1, ((put (p.2.1.length : Int) ++ (p.2.1 ++ ((put (p.2.2.length : Int) ++ p.2.2) ++ r))), 0)) := by
    unfold encP
    rw [List.append_assoc, List.append_assoc, List.append_assoc]
    exact rnum_put _ (by omega) (by omega)
  have e2 : rtext 51 ((put (p.2.1.length : Int) ++ (p.2.1 ++ ((put (p.2.2.length : Int) ++ p.2.2) ++ r))), 0) = (p.2.1, ((put (p.2.2.length : Int) ++ p.2.2) ++ r, 0)) := rtext_put _ _ (by omega) (by omega)
  have e3 : rtext 48 ((put (p.2.2.length : Int) ++ p.2.2) ++ r, 0) = (p.2.2, (r, 0)) := by
    rw [List.append_assoc]; exact rtext_put _ _ (by omega) (by omega)
  unfold pone
  rw [e1]
  simp only []
  rw [e2]
  simp only []
  rw [e3]
theorem pparts_enc : ∀ (ps : List Part), (∀ p ∈ ps, small p) → pparts ps.length (enc ps, 0) = (ps, ([], 0))
  | [], _ => rfl
  | p :: r, h => by
    have ih := pparts_enc r (fun q hq => h q (by simp [hq]))
    have e : enc (p :: r) = encP p ++ enc r := by simp [enc]
    rw [List.length_cons, pparts, e, pone_enc p (enc r) (h p (by simp))]
    simp only []
    rw [if_neg (by simp), ih]
theorem pone_inv {x : R} {p : Part} {r : List UInt8} (h : pone x = (p, (r, 0))) : x.2 = 0 ∧ x.1 = encP p ++ r ∧ small p := by
  unfold pone at h
  simp only [Prod.mk.injEq] at h
  obtain ⟨h1, h2⟩ := h
  obtain ⟨p1, p2, p3⟩ := p
  simp only [Prod.mk.injEq] at h1
  obtain ⟨e1, e2, e3⟩ := h1
  have g3 : rtext 48 (rtext 51 (rnum 51 x).2).2 = (p3, (r, 0)) := Prod.ext e3 h2
  obtain ⟨a1, a2, a3⟩ := rtext_inv g3
  have g2 : rtext 51 (rnum 51 x).2 = (p2, ((rtext 51 (rnum 51 x).2).2.1, 0)) := Prod.ext e2 (Prod.ext rfl a1)
  obtain ⟨b1, b2, b3⟩ := rtext_inv g2
  have g1 : rnum 51 x = (p1, ((rnum 51 x).2.1, 0)) := Prod.ext e1 (Prod.ext rfl b1)
  obtain ⟨c1, c2, c3, _⟩ := rnum_inv g1
  refine ⟨c1, ?_, by show p1 ≤ 51; omega, by show p2.length ≤ 51; omega, by show p3.length ≤ 48; omega⟩
  rw [c2, b2, a2]
  simp [encP, List.append_assoc]
theorem pparts_inv : ∀ {m : Nat} {x : R} {ps : List Part}, x.2 = 0 → pparts m x = (ps, ([], 0)) → ps.length = m ∧ x.1 = enc ps ∧ ∀ p ∈ ps, small p
  | 0, x, ps, _, h => by
    simp only [pparts, Prod.mk.injEq] at h
    obtain ⟨rfl, h2⟩ := h
    rw [h2]; exact ⟨rfl, rfl, by simp⟩
  | m + 1, x, ps, _, h => by
    rw [pparts] at h
    by_cases h1 : (pone x).2.2 = 0
    · rw [if_neg (by simpa using h1)] at h
      simp only [Prod.mk.injEq] at h
      obtain ⟨e1, e2⟩ := h
      have g : pparts m (pone x).2 = ((pparts m (pone x).2).1, ([], 0)) := Prod.ext rfl e2
      obtain ⟨i1, i2, i3⟩ := pparts_inv h1 g
      have g0 : pone x = ((pone x).1, ((pone x).2.1, 0)) := Prod.ext rfl (Prod.ext rfl h1)
      obtain ⟨_, j2, j3⟩ := pone_inv g0
      rw [← e1]
      refine ⟨by simp [i1], by rw [j2, i2]; simp [enc], fun p hp => ?_⟩
      rcases List.mem_cons.1 hp with rfl | hp
      · exact j3
      · exact i3 p hp
    · rw [if_pos h1] at h
      simp only [Prod.mk.injEq] at h
      have := congrArg Prod.snd h.2
      exact absurd this h1
theorem common_take : ∀ (a b : Bs), a.take (common a b) = b.take (common a b)
  | [], _ => by simp [common]
  | _ :: _, [] => by simp [common]
  | a :: l, b :: m => by
    unfold common; split
    · rename_i h; simp [h, common_take l m]
    · rfl
theorem common_rest (a b : Bs) : a.take (common a b) ++ b.drop (common a b) = b := by rw [common_take, List.take_append_drop]
/-- The path ahead of some files. -/
def prevP (acc : List File) : Option Bs := if acc = [] then none else some (lastP acc)
theorem prevP_snoc (acc : List File) (f : File) : prevP (acc ++ [f]) = some f.1 := by unfold prevP lastP; simp
theorem pchk_cons (o : Option Bs) (f : File) (r : List File) : pchk o (f :: r) = 0 ↔ check f.1 = 0 ∧ f.2.length ≤ 48 ∧ (∀ q, o = some q → compare q f.1 < 0) ∧ pchk (some f.1) r = 0 := by
  rw [pchk.eq_def]
  simp only []
  by_cases h1 : check f.1 = 0
  · rw [if_neg (by simpa using h1)]
    by_cases h2 : 48 < f.2.length
    · rw [if_pos h2]; simp; omega
    · rw [if_neg h2]
      cases o with
      | none => simp [h1]; omega
      | some q =>
        simp only [Option.some.injEq, forall_eq']
        by_cases h3 : 0 ≤ compare q f.1
        · rw [if_pos h3]; simp; omega
        · rw [if_neg h3]; simp [h1]; omega
  · rw [if_pos h1]; simp [h1]
theorem lastP_one (acc : List File) (f : File) : lastP (acc ++ [f]) = f.1 := by simp [lastP]
theorem pgo_enc : ∀ (l acc : List File), pchk (prevP acc) l = 0 → pgo acc (partsOf (lastP acc) l) = (acc ++ l, 0)
  | [], acc, _ => by simp [partsOf, pgo]
  | f :: r, acc, h => by
    obtain ⟨h1, h2, h3, h4⟩ := (pchk_cons _ _ _).1 h
    have hc := common_le (lastP acc) f.1
    have ih := pgo_enc r (acc ++ [f]) (by rw [prevP_snoc]; exact h4)
    rw [partsOf, pgo]
    simp only []
    rw [common_rest, if_neg (by omega), if_neg (by simp), if_neg (by simpa using h1), if_neg]
    · rw [lastP_one] at ih
      rw [show (f.1, f.2) = f from rfl, ih]
      simp
    · rintro ⟨e1, e2⟩
      have := h3 (lastP acc) (by unfold prevP; rw [if_neg e1])
      omega
theorem pgo_inv : ∀ {ps : List Part} {acc l : List File}, (∀ p ∈ ps, small p) → pgo acc ps = (l, 0) → ∃ r, l = acc ++ r ∧ ps = partsOf (lastP acc) r ∧ pchk (prevP acc) r = 0 ∧ r.length = ps.length
  | [], acc, l, _, h => by
    simp only [pgo, Prod.mk.injEq, and_true] at h
    exact ⟨[], by simp [h], rfl, by unfold pchk; rfl, rfl⟩
  | p :: r, acc, l, hs, h => by
    rw [pgo] at h
    by_cases a1 : (lastP acc).length < p.1
    · rw [if_pos a1] at h; simp at h
    · rw [if_neg a1] at h
      by_cases a2 : common (lastP acc) ((lastP acc).take p.1 ++ p.2.1) = p.1
      · rw [if_neg (by simpa using a2)] at h
        by_cases a3 : check ((lastP acc).take p.1 ++ p.2.1) = 0
        · rw [if_neg (by simpa using a3)] at h
          by_cases a4 : acc ≠ [] ∧ 0 ≤ compare (lastP acc) ((lastP acc).take p.1 ++ p.2.1)
          · rw [if_pos a4] at h; simp at h
          · rw [if_neg a4] at h
            obtain ⟨r', e1, e2, e3, e4⟩ := pgo_inv (fun q hq => hs q (by simp [hq])) h
            rw [prevP_snoc] at e3
            rw [lastP_one] at e2
            refine ⟨((lastP acc).take p.1 ++ p.2.1, p.2.2) :: r', by rw [e1]; simp, ?_, (pchk_cons _ _ _).2 ⟨a3, (hs p (by simp)).2.2, fun q hq => ?_, e3⟩, by simp [e4]⟩
            · rw [partsOf]
              simp only []
              rw [a2, ← e2]
              have : ((lastP acc).take p.1 ++ p.2.1).drop p.1 = p.2.1 := by
                rw [List.drop_append_of_le_length (by simp; omega), List.drop_of_length_le (by simp; omega)]; simp
              rw [this]
            · unfold prevP at hq
              split at hq
              · cases hq
              · rename_i hne
                injection hq with hq
                subst hq
                have := a4
                simp only [not_and, Int.not_le] at this
                exact this hne
        · rw [if_pos a3] at h
          simp only [Prod.mk.injEq] at h
          exact absurd h.2 a3
      · rw [if_pos a2] at h; simp at h
theorem opened_sealed (x : List UInt8) : opened (sealed x) = some x := by
  have hl : (sealed x).length = x.length + 4 := by simp [sealed, le4]
  have ht : (sealed x).take ((sealed x).length - 4) = x := by rw [hl]; simp [sealed]
  unfold opened
  rw [if_neg (by omega), if_pos (by rw [ht]), ht]
theorem opened_inv {s x : List UInt8} (h : opened s = some x) : s = sealed x := by
  unfold opened at h
  split at h
  · cases h
  · split at h
    · rename_i h2
      injection h with h
      rw [h] at h2
      exact h2.symm
    · cases h
theorem popen_sealed (b : List UInt8) : popen (sealed ([104, 97, 1] ++ b)) = (b, 0) := by
  unfold popen; rw [opened_sealed]
  simp
theorem popen_inv {s : List UInt8} (h : (popen s).2 = 0) : s = sealed ([104, 97, 1] ++ (popen s).1) := by
  unfold popen at *
  cases ho : opened s with
  | none => rw [ho] at h; simp at h
  | some t =>
    rw [ho] at h
    simp only [] at h ⊢
    by_cases h1 : t.length < 3
    · rw [if_pos h1] at h; simp at h
    · rw [if_neg h1] at h ⊢
      by_cases h2 : t.take 3 = [104, 97, 1]
      · rw [if_neg (by simpa using h2), ← h2, List.take_append_drop]
        exact opened_inv ho
      · rw [if_pos h2] at h; simp at h
theorem check_small {s : Bs} (h : check s = 0) : s.length ≤ 51 := by
  unfold check at h
  split at h
  · simp at h
  · omega
theorem pchk_small : ∀ {l : List File} {o : Option Bs}, pchk o l = 0 → ∀ f ∈ l, f.1.length ≤ 51 ∧ f.2.length ≤ 48
  | [], _, _, f, hf => by simp at hf
  | g :: r, o, h, f, hf => by
    obtain ⟨h1, h2, _, h4⟩ := (pchk_cons _ _ _).1 h
    rcases List.mem_cons.1 hf with rfl | hf
    · exact ⟨check_small h1, h2⟩
    · exact pchk_small h4 f hf
theorem partsOf_len : ∀ (l : List File) (last : Bs), (partsOf last l).length = l.length
  | [], _ => rfl
  | f :: r, _ => by simp [partsOf, partsOf_len r]
theorem partsOf_small : ∀ {l : List File} {last : Bs}, (∀ f ∈ l, f.1.length ≤ 51 ∧ f.2.length ≤ 48) → ∀ p ∈ partsOf last l, small p
  | [], _, _, p, hp => by simp [partsOf] at hp
  | f :: r, last, h, p, hp => by
    rw [partsOf] at hp
    have hf := h f (by simp)
    have hc := common_le last f.1
    rcases List.mem_cons.1 hp with rfl | hp
    · refine ⟨?_, ?_, hf.2⟩
      · show common last f.1 ≤ 51; omega
      · show (f.1.drop _).length ≤ 51; rw [List.length_drop]; omega
    · exact partsOf_small (fun g hg => h g (by simp [hg])) p hp
/-- The bytes of files that may be. -/
theorem pall_ok {l : List File} (h : pcheck l = 0) : pall l = (put (l.length : Int) ++ enc (partsOf [] l), 0) ∧ l.length ≤ 128 ∧ pchk none l = 0 := by
  unfold pcheck at h
  by_cases h1 : 128 < l.length
  · rw [if_pos h1] at h; simp at h
  · rw [if_neg h1] at h
    refine ⟨?_, by omega, h⟩
    have hs := pchk_small h
    unfold pall
    rw [show pcheck l = 0 by unfold pcheck; rw [if_neg h1]; exact h, show wfail 0 (([], 0) : W) = ([], 0) from rfl, wnum_ok _ _ (by omega), pbody_enc l [] _ (fun f hf => by have := hs f hf; omega)]
    simp
theorem pall_check {l : List File} (h : (pall l).2 = 0) : pcheck l = 0 := by
  have h1 := (pbody_zero l [] _ h).1
  have h2 := (wput_zero h1).1
  unfold wfail at h2
  simp at h2
  exact h2
/-- What was packed is read. -/
theorem read_packed {l : List File} (h : (pbytes l).2 = 0) : pread (pbytes l).1 = (l, 0) := by
  have hz : (pall l).2 = 0 := by
    unfold pbytes at h
    by_cases h1 : (pall l).2 = 0
    · exact h1
    · rw [if_pos h1] at h; exact absurd h h1
  obtain ⟨e1, e2, e3⟩ := pall_ok (pall_check hz)
  have hs := pchk_small e3
  have hb : (pbytes l).1 = sealed ([104, 97, 1] ++ (put (l.length : Int) ++ enc (partsOf [] l))) := by
    unfold pbytes; rw [if_neg (by simpa using hz), e1]
  rw [hb]
  unfold pread
  rw [popen_sealed]
  simp only []
  have hp : pall2 (put (l.length : Int) ++ enc (partsOf [] l)) = (partsOf [] l, ([], 0)) := by
    unfold pall2
    rw [rnum_put (enc (partsOf [] l)) (by omega) (by omega)]
    simp only []
    have := pparts_enc (partsOf [] l) (partsOf_small hs)
    rwa [partsOf_len] at this
  rw [hp]
  simp only []
  rw [if_neg (by simp), if_neg (by simp [rdone])]
  exact pgo_enc l [] e3
/-- What is read is packed. -/
theorem packed_read {s : List UInt8} (h : (pread s).2 = 0) : pbytes (pread s).1 = (s, 0) := by
  have h1 : (popen s).2 = 0 := by
    unfold pread at h
    by_cases h1 : (popen s).2 = 0
    · exact h1
    · rw [if_pos h1] at h; exact absurd h h1
  have hs := popen_inv h1
  obtain ⟨b, hb⟩ : ∃ b, b = (popen s).1 := ⟨_, rfl⟩
  rw [← hb] at hs
  have hp : pread s = if rdone (pall2 b).2 ≠ 0 then ([], rdone (pall2 b).2) else pgo [] (pall2 b).1 := by
    unfold pread; rw [if_neg (by simpa using h1), ← hb]
  rw [hp] at h ⊢
  by_cases h2 : rdone (pall2 b).2 = 0
  · rw [if_neg (by simpa using h2)] at h ⊢
    have hy : (pall2 b).2 = ([], 0) := by
      unfold rdone at h2
      by_cases h3 : (pall2 b).2.2 = 0
      · rw [if_neg (by simpa using h3)] at h2
        by_cases h4 : (pall2 b).2.1 = []
        · exact Prod.ext h4 h3
        · rw [if_neg h4] at h2; simp at h2
      · rw [if_pos h3] at h2; exact absurd h2 h3
    have hx0 : (rnum 128 (b, 0)).2.2 = 0 := by
      have hm : (rnum 128 (b, 0)).2.2 ≠ 0 → (rnum 128 (b, 0)).1 = 0 := by
        unfold rnum rpiece
        split
        · intro _; rfl
        · split
          · intro _; rfl
          · intro h; exact absurd rfl h
      by_cases h3 : (rnum 128 (b, 0)).2.2 = 0
      · exact h3
      · have h4 : pall2 b = ([], (rnum 128 (b, 0)).2) := by unfold pall2; rw [hm h3]; rfl
        rw [h4] at hy
        have := congrArg Prod.snd hy
        exact absurd this h3
    have g : pparts (rnum 128 (b, 0)).1 (rnum 128 (b, 0)).2 = ((pall2 b).1, ([], 0)) := Prod.ext rfl hy
    obtain ⟨i1, i2, i3⟩ := pparts_inv hx0 g
    have g0 : rnum 128 (b, 0) = ((rnum 128 (b, 0)).1, ((rnum 128 (b, 0)).2.1, 0)) := Prod.ext rfl (Prod.ext rfl hx0)
    obtain ⟨_, j2, j3, _⟩ := rnum_inv g0
    have gg : pgo [] (pall2 b).1 = ((pgo [] (pall2 b).1).1, 0) := Prod.ext rfl h
    obtain ⟨r, k1, k2, k3, k4⟩ := pgo_inv i3 gg
    rw [List.nil_append] at k1
    rw [k1]
    have hck : pcheck r = 0 := by unfold pcheck; rw [if_neg (by omega)]; exact k3
    have ha := (pall_ok hck).1
    have hbb : b = put (r.length : Int) ++ enc (partsOf [] r) := by
      have : b = put ((rnum 128 (b, 0)).1 : Int) ++ (rnum 128 (b, 0)).2.1 := j2
      rw [i2, k2] at this
      rw [k4, i1]
      exact this
    unfold pbytes
    rw [ha]
    simp only []
    rw [if_neg (by simp), ← hbb, ← hs]
  · rw [if_pos h2] at h; exact absurd h h2
end Sp
end Go.Proofs.YtbjdgiocehoaiaaDoor
