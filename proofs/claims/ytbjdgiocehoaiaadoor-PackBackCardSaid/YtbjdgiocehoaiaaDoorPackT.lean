/- Walks: the statement on what was packed. -/
import Derived.Test.YtbjdgiocehoaiaaDoorPackS
import Derived.Test.YtbjdgiocehoaiaaDoorSpec47B
namespace Go.Proofs.YtbjdgiocehoaiaaDoor
open Go.RowKit
theorem pbody_len : ∀ (l : List Sp.File) (last : Sp.Bs) (x : Sp.W), (∀ f ∈ l, f.1.length ≤ 100 ∧ f.2.length ≤ 100) → (Sp.pbody last l x).1.length ≤ x.1.length + l.length * 215
  | [], _, x, _ => by simp [Sp.pbody]
  | f :: r, last, x, h => by
    have hf := h f (by simp)
    have ih := pbody_len r f.1 (Sp.wtext f.2 (Sp.wtext (f.1.drop (Sp.common last f.1)) (Sp.wnum (Sp.common last f.1) x))) (fun g hg => h g (by simp [hg]))
    have h1 := Sp.wtext_len f.2 (Sp.wtext (f.1.drop (Sp.common last f.1)) (Sp.wnum (Sp.common last f.1) x))
    have h2 := Sp.wtext_len (f.1.drop (Sp.common last f.1)) (Sp.wnum (Sp.common last f.1) x)
    have h3 := Sp.wnum_len (Sp.common last f.1) x
    rw [List.length_drop] at h2
    rw [Sp.pbody, List.length_cons]
    omega
theorem pbytes_len (l : List Sp.File) (h : ∀ f ∈ l, f.1.length ≤ 100 ∧ f.2.length ≤ 100) (hl : l.length ≤ 1000) : (Sp.pbytes l).1.length ≤ 300000 := by
  have h1 := pbody_len l [] (Sp.wnum l.length (Sp.wfail (Sp.pcheck l) ([], 0))) h
  have h2 := Sp.wnum_len (l.length : Int) (Sp.wfail (Sp.pcheck l) ([], 0))
  rw [Sp.wfail_len] at h2
  simp only [List.length_nil] at h2
  unfold Sp.pbytes
  split
  · simp
  · have : (Sp.pall l).1.length ≤ 5 + l.length * 215 := by unfold Sp.pall; omega
    simp [Sp.sealed, Sp.le4]
    omega
theorem pread_files {s : List UInt8} (h : (Sp.pread s).2 = 0) : ∀ f ∈ (Sp.pread s).1, f.1.length ≤ 51 ∧ f.2.length ≤ 48 := by
  have h1 := Sp.packed_read h
  have h2 : (Sp.pall (Sp.pread s).1).2 = 0 := by
    have h3 : (Sp.pbytes (Sp.pread s).1).2 = 0 := by rw [h1]
    unfold Sp.pbytes at h3
    by_cases h4 : (Sp.pall (Sp.pread s).1).2 = 0
    · exact h4
    · rw [if_pos h4] at h3; exact absurd h3 h4
  exact Sp.pchk_small (Sp.pall_ok (Sp.pall_check h2)).2.2
set_option maxRecDepth 100000 in
set_option maxHeartbeats 4000000 in
theorem back_calls (l : List Sp.File) (A : Option Addr) (cap : Nat) (s : ByteArray) (w : World) (hf : FsA w A l) (hsh : ∃ m, w.cell? ⟨0, 0, none⟩ = some (.int .i64 m)) :
    Calls Tryd.prog 8 #[.slice A l.length cap, .string s] w fun e w' => e = .returned (.bool true) ∧ Below w.heap.size w w' := by
  have GR := Lib.hid (great_calls l A cap w hf)
  have AW := Lib.hid fun W (hW : Below w.heap.size w W) => pawake_calls W (max_kept hsh hW)
  cases hg : greatOf l with
  | true =>
    rw [hg] at GR
    clear hg hsh
    go_enter Tryd.func8, Tryd.ntmps8
    go_wp2_with (first
      | (go_at_call 18; refine GR.out.mono ?_; rintro e w1 ⟨rfl, rfl⟩)
      | (go_at_call 19; refine (AW.out w (Below.refl _ _)).mono ?_; rintro e w1 ⟨rfl, hb1⟩))
    go_ret
    exact ⟨rfl, hb1⟩
  | false =>
    rw [hg] at GR
    obtain ⟨h1, h2⟩ := great_not hg
    by_cases hg2 : 9000 < s.size
    · have b1 : decide ((9000 : Int) < (s.size : Int)) = true := by rw [decide_eq_true_iff]; omega
      clear hg hsh
      go_enter Tryd.func8, Tryd.ntmps8
      go_wp2_with (first
        | (go_at_call 18; refine GR.out.mono ?_; rintro e w1 ⟨rfl, rfl⟩)
        | (go_at_call 19; refine (AW.out w (Below.refl _ _)).mono ?_; rintro e w1 ⟨rfl, hb1⟩))
      go_ret
      exact ⟨rfl, hb1⟩
    · have b1 : decide ((9000 : Int) < (s.size : Int)) = false := by rw [decide_eq_false_iff_not]; omega
      have OW := Lib.hid (own_calls l A cap w hf (by omega))
      have PB := Lib.hid fun A' cap' W (hW : Below w.heap.size w W) (h : FsA W A' l) => packbytes_calls l A' cap' W h (by omega) (fun f hm => by have := h2 f hm; omega) (max_kept hsh hW)
      have hbl := pbytes_len l h2 (by omega)
      have RT := Lib.hid fun W (hW : Below w.heap.size w W) => pread_calls (Sp.pbytes l).1 W (by omega) (max_kept hsh hW)
      have RS := Lib.hid fun W (hW : Below w.heap.size w W) => pread_calls s.data.toList W (by simp; omega) (max_kept hsh hW)
      simp only [strOf_self] at RS
      have SL := Lib.hid fun A1 cap1 W (hW : Below w.heap.size w W) (h : FsA W A1 l) => same_calls l A1 A cap1 cap W h (hf.below hW) (by omega)
      by_cases hz : (Sp.pbytes l).2 = 0
      · rw [Sp.read_packed hz] at RT
        rw [hz] at PB
        obtain ⟨t, ht⟩ : ∃ t, t = strOf (Sp.pbytes l).1 := ⟨_, rfl⟩
        rw [← ht] at PB RT
        clear ht hbl hz
        by_cases hy : (Sp.pread s.data.toList).2 = 0
        · have hsm := pread_files hy
          have hln := pread_small s.data.toList
          have PX := Lib.hid fun A' cap' W (hW : Below w.heap.size w W) (h : FsA W A' (Sp.pread s.data.toList).1) => packbytes_calls (Sp.pread s.data.toList).1 A' cap' W h (by omega) (fun f hm => by have := hsm f hm; omega) (max_kept hsh hW)
          rw [Sp.packed_read hy] at PX
          simp only [strOf_self] at PX
          obtain ⟨r, hr⟩ : ∃ r, r = Sp.pread s.data.toList := ⟨_, rfl⟩
          simp only [← hr] at RS PX hy
          obtain ⟨r1, r2⟩ := r
          simp only [] at hy PX
          subst hy
          clear hr hsm hln hsh hg hg2 h1 h2
          go_enter Tryd.func8, Tryd.ntmps8
          go_wp2_with (first
            | (go_at_call 18; refine GR.out.mono ?_; rintro e w1 ⟨rfl, rfl⟩)
            | (go_at_call 21; refine OW.out.mono ?_; rintro e w1 ⟨A1, cap1, rfl, hf1, hb1⟩; have F1 := Lib.hid hf1; have B := Lib.hid hb1; clear hf1 hb1 OW)
            | (go_at_call 20; refine (PB.out _ _ _ B.out F1.out).mono ?_; rintro e w2 ⟨rfl, hb2⟩; have B' := Lib.hid (B.out.trans (hb2.mono B.out.size)); clear hb2 B PB F1; have B := B'; clear B')
            | (go_at_call 23; refine (RT.out _ B.out).mono ?_; rintro e w3 ⟨A2, cap2, rfl, hf2, hb3⟩; have F2 := Lib.hid hf2; have B' := Lib.hid (B.out.trans (hb3.mono B.out.size)); clear hf2 hb3 B RT; have B := B'; clear B')
            | (go_at_call 25; refine (SL.out _ _ _ B.out F2.out).mono ?_; rintro e w4 ⟨rfl, hb4⟩; have B' := Lib.hid (B.out.trans (hb4.mono B.out.size)); clear hb4 B SL F2; have B := B'; clear B')
            | (go_at_call 23; refine (RS.out _ B.out).mono ?_; rintro e w5 ⟨A3, cap3, rfl, hf3, hb5⟩; have F3 := Lib.hid hf3; have B' := Lib.hid (B.out.trans (hb5.mono B.out.size)); clear hf3 hb5 B RS; have B := B'; clear B')
            | (go_at_call 20; refine (PX.out _ _ _ B.out F3.out).mono ?_; rintro e w6 ⟨rfl, hb6⟩; have B' := Lib.hid (B.out.trans (hb6.mono B.out.size)); clear hb6 B PX F3; have B := B'; clear B')
            | (go_at_call 19; refine (AW.out _ B.out).mono ?_; rintro e w7 ⟨rfl, hb7⟩; have hb9 := B.out.trans (hb7.mono B.out.size)))
          go_ret
          exact ⟨rfl, hb9⟩
        · obtain ⟨r, hr⟩ : ∃ r, r = Sp.pread s.data.toList := ⟨_, rfl⟩
          simp only [← hr] at RS hy
          have y1 : (r.2 == 0) = false := by simpa using hy
          have y2 : (r.2 != 0) = true := by simpa using hy
          clear hr hsh hg hg2 h1 h2 hy
          go_enter Tryd.func8, Tryd.ntmps8
          go_wp2_with (first
            | (go_at_call 18; refine GR.out.mono ?_; rintro e w1 ⟨rfl, rfl⟩)
            | (go_at_call 21; refine OW.out.mono ?_; rintro e w1 ⟨A1, cap1, rfl, hf1, hb1⟩; have F1 := Lib.hid hf1; have B := Lib.hid hb1; clear hf1 hb1 OW)
            | (go_at_call 20; refine (PB.out _ _ _ B.out F1.out).mono ?_; rintro e w2 ⟨rfl, hb2⟩; have B' := Lib.hid (B.out.trans (hb2.mono B.out.size)); clear hb2 B PB F1; have B := B'; clear B')
            | (go_at_call 23; refine (RT.out _ B.out).mono ?_; rintro e w3 ⟨A2, cap2, rfl, hf2, hb3⟩; have F2 := Lib.hid hf2; have B' := Lib.hid (B.out.trans (hb3.mono B.out.size)); clear hf2 hb3 B RT; have B := B'; clear B')
            | (go_at_call 25; refine (SL.out _ _ _ B.out F2.out).mono ?_; rintro e w4 ⟨rfl, hb4⟩; have B' := Lib.hid (B.out.trans (hb4.mono B.out.size)); clear hb4 B SL F2; have B := B'; clear B')
            | (go_at_call 23; refine (RS.out _ B.out).mono ?_; rintro e w5 ⟨A3, cap3, rfl, hf3, hb5⟩; have F3 := Lib.hid hf3; have B' := Lib.hid (B.out.trans (hb5.mono B.out.size)); clear hf3 hb5 B RS; have B := B'; clear B')
            | (go_at_call 20; refine (PX.out _ _ _ B.out F3.out).mono ?_; rintro e w6 ⟨rfl, hb6⟩; have B' := Lib.hid (B.out.trans (hb6.mono B.out.size)); clear hb6 B PX F3; have B := B'; clear B')
            | (go_at_call 19; refine (AW.out _ B.out).mono ?_; rintro e w7 ⟨rfl, hb7⟩; have hb9 := B.out.trans (hb7.mono B.out.size)))
          go_ret
          exact ⟨rfl, hb9⟩
      · obtain ⟨t, ht⟩ : ∃ t, t = strOf (Sp.pbytes l).1 := ⟨_, rfl⟩
        obtain ⟨z, hzz⟩ : ∃ z, z = (Sp.pbytes l).2 := ⟨_, rfl⟩
        simp only [← ht, ← hzz] at PB
        rw [← hzz] at hz
        have z1 : (z == 0) = false := by simpa using hz
        have z2 : (z != 0) = true := by simpa using hz
        clear ht hbl hz hzz RT
        by_cases hy : (Sp.pread s.data.toList).2 = 0
        · have hsm := pread_files hy
          have hln := pread_small s.data.toList
          have PX := Lib.hid fun A' cap' W (hW : Below w.heap.size w W) (h : FsA W A' (Sp.pread s.data.toList).1) => packbytes_calls (Sp.pread s.data.toList).1 A' cap' W h (by omega) (fun f hm => by have := hsm f hm; omega) (max_kept hsh hW)
          rw [Sp.packed_read hy] at PX
          simp only [strOf_self] at PX
          obtain ⟨r, hr⟩ : ∃ r, r = Sp.pread s.data.toList := ⟨_, rfl⟩
          simp only [← hr] at RS PX hy
          obtain ⟨r1, r2⟩ := r
          simp only [] at hy PX
          subst hy
          clear hr hsm hln hsh hg hg2 h1 h2
          go_enter Tryd.func8, Tryd.ntmps8
          go_wp2_with (first
            | (go_at_call 18; refine GR.out.mono ?_; rintro e w1 ⟨rfl, rfl⟩)
            | (go_at_call 21; refine OW.out.mono ?_; rintro e w1 ⟨A1, cap1, rfl, hf1, hb1⟩; have F1 := Lib.hid hf1; have B := Lib.hid hb1; clear hf1 hb1 OW)
            | (go_at_call 20; refine (PB.out _ _ _ B.out F1.out).mono ?_; rintro e w2 ⟨rfl, hb2⟩; have B' := Lib.hid (B.out.trans (hb2.mono B.out.size)); clear hb2 B PB F1; have B := B'; clear B')
            | (go_at_call 23; refine (RT.out _ B.out).mono ?_; rintro e w3 ⟨A2, cap2, rfl, hf2, hb3⟩; have F2 := Lib.hid hf2; have B' := Lib.hid (B.out.trans (hb3.mono B.out.size)); clear hf2 hb3 B RT; have B := B'; clear B')
            | (go_at_call 25; refine (SL.out _ _ _ B.out F2.out).mono ?_; rintro e w4 ⟨rfl, hb4⟩; have B' := Lib.hid (B.out.trans (hb4.mono B.out.size)); clear hb4 B SL F2; have B := B'; clear B')
            | (go_at_call 23; refine (RS.out _ B.out).mono ?_; rintro e w5 ⟨A3, cap3, rfl, hf3, hb5⟩; have F3 := Lib.hid hf3; have B' := Lib.hid (B.out.trans (hb5.mono B.out.size)); clear hf3 hb5 B RS; have B := B'; clear B')
            | (go_at_call 20; refine (PX.out _ _ _ B.out F3.out).mono ?_; rintro e w6 ⟨rfl, hb6⟩; have B' := Lib.hid (B.out.trans (hb6.mono B.out.size)); clear hb6 B PX F3; have B := B'; clear B')
            | (go_at_call 19; refine (AW.out _ B.out).mono ?_; rintro e w7 ⟨rfl, hb7⟩; have hb9 := B.out.trans (hb7.mono B.out.size)))
          go_ret
          exact ⟨rfl, hb9⟩
        · obtain ⟨r, hr⟩ : ∃ r, r = Sp.pread s.data.toList := ⟨_, rfl⟩
          simp only [← hr] at RS hy
          have y1 : (r.2 == 0) = false := by simpa using hy
          have y2 : (r.2 != 0) = true := by simpa using hy
          clear hr hsh hg hg2 h1 h2 hy
          go_enter Tryd.func8, Tryd.ntmps8
          go_wp2_with (first
            | (go_at_call 18; refine GR.out.mono ?_; rintro e w1 ⟨rfl, rfl⟩)
            | (go_at_call 21; refine OW.out.mono ?_; rintro e w1 ⟨A1, cap1, rfl, hf1, hb1⟩; have F1 := Lib.hid hf1; have B := Lib.hid hb1; clear hf1 hb1 OW)
            | (go_at_call 20; refine (PB.out _ _ _ B.out F1.out).mono ?_; rintro e w2 ⟨rfl, hb2⟩; have B' := Lib.hid (B.out.trans (hb2.mono B.out.size)); clear hb2 B PB F1; have B := B'; clear B')
            | (go_at_call 23; refine (RT.out _ B.out).mono ?_; rintro e w3 ⟨A2, cap2, rfl, hf2, hb3⟩; have F2 := Lib.hid hf2; have B' := Lib.hid (B.out.trans (hb3.mono B.out.size)); clear hf2 hb3 B RT; have B := B'; clear B')
            | (go_at_call 25; refine (SL.out _ _ _ B.out F2.out).mono ?_; rintro e w4 ⟨rfl, hb4⟩; have B' := Lib.hid (B.out.trans (hb4.mono B.out.size)); clear hb4 B SL F2; have B := B'; clear B')
            | (go_at_call 23; refine (RS.out _ B.out).mono ?_; rintro e w5 ⟨A3, cap3, rfl, hf3, hb5⟩; have F3 := Lib.hid hf3; have B' := Lib.hid (B.out.trans (hb5.mono B.out.size)); clear hf3 hb5 B RS; have B := B'; clear B')
            | (go_at_call 20; refine (PX.out _ _ _ B.out F3.out).mono ?_; rintro e w6 ⟨rfl, hb6⟩; have B' := Lib.hid (B.out.trans (hb6.mono B.out.size)); clear hb6 B PX F3; have B := B'; clear B')
            | (go_at_call 19; refine (AW.out _ B.out).mono ?_; rintro e w7 ⟨rfl, hb7⟩; have hb9 := B.out.trans (hb7.mono B.out.size)))
          go_ret
          exact ⟨rfl, hb9⟩
end Go.Proofs.YtbjdgiocehoaiaaDoor
