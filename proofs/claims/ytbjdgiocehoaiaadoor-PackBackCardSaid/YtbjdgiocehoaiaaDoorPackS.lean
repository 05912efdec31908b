/- Walks: the statement on archives that are read. -/
import Derived.Test.YtbjdgiocehoaiaaDoorPackR
namespace Go.Proofs.YtbjdgiocehoaiaaDoor
open Go.RowKit
attribute [local go_sem] yUpon
set_option maxRecDepth 100000 in
set_option maxHeartbeats 4000000 in
theorem same_calls (l : List Sp.File) (A1 A2 : Option Addr) (cap1 cap2 : Nat) (w : World) (h1 : FsA w A1 l) (h2 : FsA w A2 l) (hl : l.length ≤ 1000000) :
    Calls Tryd.prog 25 #[.slice A1 l.length cap1, .slice A2 l.length cap2] w fun e w' => e = .returned (.bool true) ∧ Below w.heap.size w w' := by
  go_enter Tryd.func25, Tryd.ntmps25
  go_wp2_with fail
  go_loopw [5] (fun v5 wr => ∃ k : Nat, k ≤ l.length ∧ v5 = .int .i64 k ∧ Below w.heap.size w wr) (fun v5 _ => l.length - (intOf v5).toNat)
  case atStart => exact ⟨0, Nat.zero_le _, rfl, Below.refl _ _⟩
  case round =>
    obtain ⟨k, hk, rfl, hb⟩ := hrel
    by_cases hlt : k < l.length
    · have q1 : decide ((k : Int) < (l.length : Int)) = true := by rw [decide_eq_true_iff]; omega
      obtain ⟨g, o, rfl, hF⟩ := h1 (by rintro rfl; simp at hlt)
      obtain ⟨g2, o2, rfl, hG⟩ := h2 (by rintro rfl; simp at hlt)
      obtain ⟨c1, c2⟩ := hF.below hb k hlt
      obtain ⟨c3, c4⟩ := hG.below hb k hlt
      go_wp2_with fail
      refine wp_region_det (fun W => Below wr.heap.size wr W) (by kernel_rfl) (by kernel_rfl) ((Below.refl _ _).drew) ?_
      repeat (first
        | (refine det_step (fun K hK => ?_)
           apply Exists.intro
           refine ⟨Or.inl ⟨rfl, fun W hS => ?_⟩, ?_⟩
           · have hz : Below wr.heap.size wr W := hS; have f1 := cellKept c1 hz; have f2 := cellKept c2 hz; have f3 := cellKept c3 hz; have f4 := cellKept c4 hz
             go_simp
             first
             | exact rfl
             | exact ⟨rfl, hS⟩
             | (fail)
           go_simp
           refine hK _ ?_
           clear hK K)
        | (refine det_step (fun K hK => ?_); refine det_no' rfl ?_; go_simp; refine hK _ ?_; clear hK K))
      refine det_nil ?_
      intro W9 hS
      replace hS : Below wr.heap.size wr W9 := hS
      go_wp2_with fail
      go_roundw
      case rel => exact ⟨k + 1, by omega, by go_num, hb.trans (hS.mono hb.size)⟩
      case measure => simp [intOf]; omega
    · obtain rfl : k = l.length := by omega
      go_wp2_with fail
      go_ret
      exact ⟨rfl, hb⟩
theorem pgo_len : ∀ (L : List Sp.Part) (acc : List Sp.File), (Sp.pgo acc L).1.length ≤ acc.length + L.length
  | [], acc => by simp [Sp.pgo]
  | p :: r, acc => by
    rw [Sp.pgo]
    split
    · simp
    · split
      · simp
      · split
        · simp
        · split
          · simp
          · have := pgo_len r (acc ++ [((Sp.lastP acc).take p.1 ++ p.2.1, p.2.2)])
            simp only [List.length_append, List.length_cons, List.length_nil] at this ⊢
            omega
theorem pread_small (s : List UInt8) : (Sp.pread s).1.length ≤ 128 := by
  unfold Sp.pread
  split
  · simp
  · split
    · simp
    · have h1 := pgo_len (Sp.pall2 (Sp.popen s).1).1 []
      have h2 := (Sp.pall2_small (Sp.popen s).1).1
      simp only [List.length_nil] at h1
      omega
set_option maxRecDepth 100000 in
set_option maxHeartbeats 2000000 in
theorem reads_calls (s : ByteArray) (w : World) (hsh : ∃ m, w.cell? ⟨0, 0, none⟩ = some (.int .i64 m)) :
    Calls Tryd.prog 7 #[.string s] w fun e w' => e = .returned (.bool true) ∧ Below w.heap.size w w' := by
  have AW := Lib.hid fun W (hW : Below w.heap.size w W) => pawake_calls W (max_kept hsh hW)
  by_cases hg : 9000 < s.size
  · have b1 : decide ((9000 : Int) < (s.size : Int)) = true := by rw [decide_eq_true_iff]; omega
    clear hsh
    go_enter Tryd.func7, Tryd.ntmps7
    go_wp2_with (go_at_call 19; refine (AW.out w (Below.refl _ _)).mono ?_; rintro e w1 ⟨rfl, hb1⟩)
    go_ret
    exact ⟨rfl, hb1⟩
  · have b1 : decide ((9000 : Int) < (s.size : Int)) = false := by rw [decide_eq_false_iff_not]; omega
    have PR := Lib.hid (pread_calls s.data.toList w (by simp; omega) hsh)
    have RR := Lib.hid fun W => rpread_calls s.data.toList W (by simp; omega)
    simp only [strOf_self] at PR RR
    have hsmall := pread_small s.data.toList
    obtain ⟨r, hr⟩ : ∃ r, r = Sp.pread s.data.toList := ⟨_, rfl⟩
    simp only [← hr] at PR RR hsmall
    clear hr hsh
    go_enter Tryd.func7, Tryd.ntmps7
    go_wp2_with (first
      | (go_at_call 23; refine PR.out.mono ?_; rintro e w1 ⟨A1, cap1, rfl, hf1, hb1⟩; have F1 := Lib.hid hf1; have B1 := Lib.hid hb1; clear hf1 hb1)
      | (go_at_call 24; refine (RR.out _).mono ?_; rintro e w2 ⟨A2, cap2, rfl, hf2, hb2⟩; have F2 := Lib.hid hf2; have G1 := Lib.hid (F1.out.below hb2); have B2 := Lib.hid (B1.out.trans (hb2.mono B1.out.size)); clear hf2 hb2)
      | (go_at_call 25; refine (same_calls r.1 A1 A2 cap1 cap2 w2 G1.out F2.out (by omega)).mono ?_; rintro e w3 ⟨rfl, hb3⟩; have B3 := Lib.hid (B2.out.trans (hb3.mono B2.out.size)); clear hb3)
      | (go_at_call 19; refine (AW.out _ B3.out).mono ?_; rintro e w4 ⟨rfl, hb4⟩))
    go_ret
    exact ⟨rfl, B3.out.trans (hb4.mono B3.out.size)⟩
end Go.Proofs.YtbjdgiocehoaiaaDoor
