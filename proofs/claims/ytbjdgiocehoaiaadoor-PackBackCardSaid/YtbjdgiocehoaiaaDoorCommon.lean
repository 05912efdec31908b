/- Walks: how many bytes two texts have in common, and the reference's. -/
import Derived.Test.YtbjdgiocehoaiaaDoorCountA
import Derived.Test.YtbjdgiocehoaiaaDoorRegion
namespace Go.Proofs.YtbjdgiocehoaiaaDoor
open Go.RowKit
namespace Sp
def common : List UInt8 → List UInt8 → Nat
  | a :: l, b :: m => if a = b then common l m + 1 else 0
  | [], _ => 0
  | _ :: _, [] => 0
theorem common_end (l m : List UInt8) (h : l = [] ∨ m = []) : common l m = 0 := by
  cases l <;> cases m <;> simp_all [common]
theorem common_step (s t : ByteArray) (k : Nat) (hs : k < s.size) (ht : k < t.size) : common (s.data.toList.drop k) (t.data.toList.drop k) = if s[k] = t[k] then common (s.data.toList.drop (k + 1)) (t.data.toList.drop (k + 1)) + 1 else 0 := by
  rw [List.drop_eq_getElem_cons (by simpa using hs), List.drop_eq_getElem_cons (i := k) (l := t.data.toList) (by simpa using ht), common]
  rfl
end Sp
attribute [local go_sem] yUpon
set_option maxRecDepth 100000 in
set_option maxHeartbeats 2000000 in
theorem common_calls (s t : ByteArray) (w : World) (hs : s.size < 4294967200) :
    Calls Tryd.prog 38 #[.string s, .string t] w fun e w' => e = .returned (.int .i64 (Sp.common s.data.toList t.data.toList : Nat)) ∧ Below w.heap.size w w' := by
  go_enter Tryd.func38, Tryd.ntmps38
  go_wp2_with fail
  go_loopw [5] (fun v5 wr => ∃ k : Nat, k ≤ s.size ∧ k ≤ t.size ∧ v5 = .int .i64 k ∧ Sp.common s.data.toList t.data.toList = k + Sp.common (s.data.toList.drop k) (t.data.toList.drop k) ∧ Below w.heap.size w wr) (fun v5 _ => s.size - (intOf v5).toNat)
  case atStart => exact ⟨0, Nat.zero_le _, Nat.zero_le _, rfl, by simp, Below.refl _ _⟩
  case round =>
    obtain ⟨k, hk, hk2, rfl, hc, hb⟩ := hrel
    obtain ⟨M, hM, hM2⟩ : ∃ M : Nat, min (s.size : Int) (t.size : Int) = (M : Int) ∧ M = min s.size t.size := ⟨min s.size t.size, by omega, rfl⟩
    by_cases hlt : k < M
    · have hks : k < s.size := by omega
      have hkt : k < t.size := by omega
      have q1 : decide ((k : Int) < (M : Int)) = true := by rw [decide_eq_true_iff]; omega
      have st := Sp.common_step s t k hks hkt
      by_cases he : s[k] = t[k]
      · rw [if_pos he] at st
        have b1 : (((s[k]).toNat : Int) == ((t[k]).toNat : Int)) = true := by rw [he]; simp
        rw [st] at hc
        have HC := Lib.hid hc
        clear hc st he hM2
        go_wp2_with fail
        refine wp_region_det (fun W => Below w.heap.size w W) (by kernel_rfl) (by kernel_rfl) hb.drew ?_
        repeat (first
          | (refine det_step (fun K hK => ?_)
             apply Exists.intro
             refine ⟨Or.inl ⟨rfl, fun W hS => ?_⟩, ?_⟩
             · have hz := hS
               go_simp
               first
               | exact rfl
               | exact ⟨rfl, hz⟩
             go_simp
             refine hK _ ?_
             clear hK K)
          | (refine det_step (fun K hK => ?_); refine det_no' rfl ?_; go_simp; refine hK _ ?_; clear hK K))
        refine det_nil ?_
        intro W9 hS
        replace hS : Below w.heap.size w W9 := hS
        go_wp2_with fail
        go_roundw
        case rel => exact ⟨k + 1, by omega, by omega, by go_num, by rw [HC.out]; omega, hS⟩
        case measure => simp [intOf]; omega
      · rw [if_neg he] at st
        have b1 : (((s[k]).toNat : Int) == ((t[k]).toNat : Int)) = false := by
          rw [beq_eq_false_iff_ne]; intro e; exact he (UInt8.toNat_inj.1 (by omega))
        rw [st] at hc
        have HC := Lib.hid hc
        clear hc st he hM2
        go_wp2_with fail
        refine wp_region_det (fun W => Below w.heap.size w W) (by kernel_rfl) (by kernel_rfl) hb.drew ?_
        repeat (first
          | (refine det_step (fun K hK => ?_)
             apply Exists.intro
             refine ⟨Or.inl ⟨rfl, fun W hS => ?_⟩, ?_⟩
             · have hz := hS
               go_simp
               first
               | exact rfl
               | exact ⟨rfl, hz⟩
             go_simp
             refine hK _ ?_
             clear hK K)
          | (refine det_step (fun K hK => ?_); refine det_no' rfl ?_; go_simp; refine hK _ ?_; clear hK K))
        refine det_nil ?_
        intro W9 hS
        replace hS : Below w.heap.size w W9 := hS
        go_wp2_with fail
        go_ret
        exact ⟨by rw [HC.out]; rfl, hS⟩
    · have q1 : decide ((k : Int) < (M : Int)) = false := by rw [decide_eq_false_iff_not]; omega
      rw [Sp.common_end (s.data.toList.drop k) (t.data.toList.drop k) (by
        rcases Nat.lt_or_ge k s.size with h | h
        · exact .inr (List.drop_eq_nil_of_le (by simp; omega))
        · exact .inl (List.drop_eq_nil_of_le (by simp; omega)))] at hc
      have HC := Lib.hid hc
      clear hc hM2
      go_wp2_with fail
      refine wp_region_det (fun W => Below w.heap.size w W) (by kernel_rfl) (by kernel_rfl) hb.drew ?_
      repeat (first
        | (refine det_step (fun K hK => ?_)
           apply Exists.intro
           refine ⟨Or.inl ⟨rfl, fun W hS => ?_⟩, ?_⟩
           · have hz := hS
             go_simp
             first
             | exact rfl
             | exact ⟨rfl, hz⟩
           go_simp
           refine hK _ ?_
           clear hK K)
        | (refine det_step (fun K hK => ?_); refine det_no' rfl ?_; go_simp; refine hK _ ?_; clear hK K))
      refine det_nil ?_
      intro W9 hS
      replace hS : Below w.heap.size w W9 := hS
      go_wp2_with fail
      go_ret
      exact ⟨by rw [HC.out]; rfl, hS⟩
set_option maxRecDepth 100000 in
set_option maxHeartbeats 2000000 in
theorem rcommon_calls (s t : ByteArray) (w : World) (hs : s.size < 4294967200) :
    Calls Tryd.prog 45 #[.string s, .string t] w fun e w' => e = .returned (.int .i64 (Sp.common s.data.toList t.data.toList : Nat)) ∧ Below w.heap.size w w' := by
  go_enter Tryd.func45, Tryd.ntmps45
  go_wp2_with fail
  go_loopw [5] (fun v5 wr => ∃ k : Nat, k ≤ s.size ∧ k ≤ t.size ∧ v5 = .int .i64 k ∧ Sp.common s.data.toList t.data.toList = k + Sp.common (s.data.toList.drop k) (t.data.toList.drop k) ∧ Below w.heap.size w wr) (fun v5 _ => s.size - (intOf v5).toNat)
  case atStart => exact ⟨0, Nat.zero_le _, Nat.zero_le _, rfl, by simp, Below.refl _ _⟩
  case round =>
    obtain ⟨k, hk, hk2, rfl, hc, hb⟩ := hrel
    by_cases hlt : k < s.size ∧ k < t.size
    · obtain ⟨hks, hkt⟩ := hlt
      have st := Sp.common_step s t k hks hkt
      by_cases he : s[k] = t[k]
      · rw [if_pos he] at st
        have b1 : (((s[k]).toNat : Int) == ((t[k]).toNat : Int)) = true := by rw [he]; simp
        rw [st] at hc
        have HC := Lib.hid hc
        clear hc st he
        go_wp2_with fail
        refine wp_region_det (fun W => Below w.heap.size w W) (by kernel_rfl) (by kernel_rfl) hb.drew ?_
        repeat (first
          | (refine det_step (fun K hK => ?_)
             apply Exists.intro
             refine ⟨Or.inl ⟨rfl, fun W hS => ?_⟩, ?_⟩
             · have hz := hS
               go_simp
               first
               | exact rfl
               | exact ⟨rfl, hz⟩
             go_simp
             refine hK _ ?_
             clear hK K)
          | (refine det_step (fun K hK => ?_); refine det_no' rfl ?_; go_simp; refine hK _ ?_; clear hK K))
        refine det_nil ?_
        intro W9 hS
        replace hS : Below w.heap.size w W9 := hS
        go_wp2_with fail
        go_roundw
        case rel => exact ⟨k + 1, by omega, by omega, by go_num, by rw [HC.out]; omega, hS⟩
        case measure => simp [intOf]; omega
      · rw [if_neg he] at st
        have b1 : (((s[k]).toNat : Int) == ((t[k]).toNat : Int)) = false := by
          rw [beq_eq_false_iff_ne]; intro e; exact he (UInt8.toNat_inj.1 (by omega))
        rw [st] at hc
        have HC := Lib.hid hc
        clear hc st he
        go_wp2_with fail
        refine wp_region_det (fun W => Below w.heap.size w W) (by kernel_rfl) (by kernel_rfl) hb.drew ?_
        repeat (first
          | (refine det_step (fun K hK => ?_)
             apply Exists.intro
             refine ⟨Or.inl ⟨rfl, fun W hS => ?_⟩, ?_⟩
             · have hz := hS
               go_simp
               first
               | exact rfl
               | exact ⟨rfl, hz⟩
             go_simp
             refine hK _ ?_
             clear hK K)
          | (refine det_step (fun K hK => ?_); refine det_no' rfl ?_; go_simp; refine hK _ ?_; clear hK K))
        refine det_nil ?_
        intro W9 hS
        replace hS : Below w.heap.size w W9 := hS
        go_wp2_with fail
        go_ret
        exact ⟨by rw [HC.out]; rfl, hS⟩
    · rw [Sp.common_end (s.data.toList.drop k) (t.data.toList.drop k) (by
        rcases Nat.lt_or_ge k s.size with h | h
        · exact .inr (List.drop_eq_nil_of_le (by simp; omega))
        · exact .inl (List.drop_eq_nil_of_le (by simp; omega)))] at hc
      have hm : min (s.size : Int) (t.size : Int) = (k : Int) := by omega
      have HC := Lib.hid (show min (s.size : Int) (t.size : Int) = ((Sp.common s.data.toList t.data.toList : Nat) : Int) by rw [hm, hc]; rfl)
      clear hc hm
      by_cases hks : k < s.size
      · have hkt : ¬ k < t.size := by omega
        clear hlt
        go_wp2_with fail
        go_ret
        exact ⟨by rw [← HC.out]; rfl, hb⟩
      · clear hlt
        go_wp2_with fail
        go_ret
        exact ⟨by rw [← HC.out]; rfl, hb⟩
end Go.Proofs.YtbjdgiocehoaiaaDoor
