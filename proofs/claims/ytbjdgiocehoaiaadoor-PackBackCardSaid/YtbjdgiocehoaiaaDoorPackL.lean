/- Walks: the law's small functions of chapter 47. -/
import Derived.Test.YtbjdgiocehoaiaaDoorPackD
import Derived.Test.YtbjdgiocehoaiaaDoorHandB
import Derived.Test.YtbjdgiocehoaiaaDoorRegionA
namespace Go.Proofs.YtbjdgiocehoaiaaDoor
open Go.RowKit
attribute [local go_sem] yUpon
/-- Are files too much to be asked? -/
def greatOf (l : List Sp.File) : Bool := decide (141 < l.length) || l.any fun f => decide (100 < f.1.length) || decide (100 < f.2.length)
theorem great_not {l : List Sp.File} (h : greatOf l = false) : l.length ≤ 141 ∧ ∀ f ∈ l, f.1.length ≤ 100 ∧ f.2.length ≤ 100 := by
  unfold greatOf at h
  rw [Bool.or_eq_false_iff, decide_eq_false_iff_not, List.any_eq_false] at h
  refine ⟨by omega, fun f hf => ?_⟩
  have := h.2 f hf
  simp at this
  omega
set_option maxRecDepth 100000 in
set_option maxHeartbeats 2000000 in
theorem great_calls (l : List Sp.File) (A : Option Addr) (cap : Nat) (w : World) (hf : FsA w A l) :
    Calls Tryd.prog 18 #[.slice A l.length cap] w fun e w' => e = .returned (.bool (greatOf l)) ∧ w = w' := by
  go_enter Tryd.func18, Tryd.ntmps18
  go_wp2_with fail
  go_loopw [3] (fun v3 wr => ∃ k : Nat, k ≤ l.length ∧ k ≤ 141 ∧ v3 = .int .i64 k ∧ ((l.take k).any fun f => decide (100 < f.1.length) || decide (100 < f.2.length)) = false ∧ w = wr) (fun v3 _ => l.length - (intOf v3).toNat)
  case atStart => exact ⟨0, Nat.zero_le _, by decide, rfl, rfl, rfl⟩
  case round =>
    obtain ⟨k, hk, hk2, rfl, hp, rfl⟩ := hrel
    by_cases hlt : k < l.length
    · have q1 : decide ((k : Int) < (l.length : Int)) = true := by rw [decide_eq_true_iff]; omega
      by_cases h140 : 140 < k
      · have F := Lib.hid (show greatOf l = true by unfold greatOf; rw [decide_eq_true (show 141 < l.length by omega)]; rfl)
        have b1 : decide ((140 : Int) < (k : Int)) = true := by rw [decide_eq_true_iff]; omega
        clear hp
        go_wp2_with fail
        go_ret
        exact ⟨by rw [F.out]; rfl, rfl⟩
      · have b1 : decide ((140 : Int) < (k : Int)) = false := by rw [decide_eq_false_iff_not]; omega
        obtain ⟨g, o, rfl, hF⟩ := hf (by rintro rfl; simp at hlt)
        obtain ⟨c1, c2⟩ := hF k hlt
        have s1 : (strOf l[k].1).size = l[k].1.length := strOf_size _
        have s2 : (strOf l[k].2).size = l[k].2.length := strOf_size _
        have hmem : ∀ p : Sp.File → Bool, p l[k] = true → l.any p = true := fun p hp => List.any_eq_true.2 ⟨_, List.getElem_mem hlt, hp⟩
        have hnx : ((l.take (k + 1)).any fun f => decide (100 < f.1.length) || decide (100 < f.2.length)) = (decide (100 < l[k].1.length) || decide (100 < l[k].2.length)) := by
          rw [List.take_add_one, List.getElem?_eq_getElem hlt, Option.toList_some, List.any_append, hp]; simp
        by_cases h1 : 100 < l[k].1.length
        · have F := Lib.hid (show greatOf l = true by unfold greatOf; rw [hmem _ (by simp [h1])]; simp)
          have b2 : decide ((100 : Int) < (l[k].1.length : Int)) = true := by rw [decide_eq_true_iff]; omega
          clear hp hmem hnx h1
          go_wp2_with fail
          go_ret
          exact ⟨by rw [F.out]; rfl, rfl⟩
        · have b2 : decide ((100 : Int) < (l[k].1.length : Int)) = false := by rw [decide_eq_false_iff_not]; omega
          by_cases h2 : 100 < l[k].2.length
          · have F := Lib.hid (show greatOf l = true by unfold greatOf; rw [hmem _ (by simp [h2])]; simp)
            have b3 : decide ((100 : Int) < (l[k].2.length : Int)) = true := by rw [decide_eq_true_iff]; omega
            clear hp hmem hnx h1 h2
            go_wp2_with fail
            go_ret
            exact ⟨by rw [F.out]; rfl, rfl⟩
          · have b3 : decide ((100 : Int) < (l[k].2.length : Int)) = false := by rw [decide_eq_false_iff_not]; omega
            have HN := Lib.hid (show ((l.take (k + 1)).any fun f => decide (100 < f.1.length) || decide (100 < f.2.length)) = false by rw [hnx]; simp [h1, h2])
            clear hp hmem hnx h1 h2
            go_wp2_with fail
            go_roundw
            case rel => exact ⟨k + 1, by omega, by omega, by go_num, HN.out, trivial⟩
            case measure => simp [intOf]; omega
    · obtain rfl : k = l.length := by omega
      rw [List.take_length] at hp
      have F := Lib.hid (show greatOf l = false by unfold greatOf; rw [hp, decide_eq_false (show ¬ 141 < l.length by omega)]; rfl)
      clear hp
      go_wp2_with fail
      go_ret
      exact ⟨by rw [F.out]; rfl, rfl⟩
theorem appF : AppStat Tryd.prog 33 57 2 32 := by
  refine ⟨Tryd.underlying33, by decide, by decide, ?_⟩
  obtain ⟨i0, hi, hz0, hz1, hz2⟩ := info_parts (show (Tryd.prog.info? 57).map (fun i => (i.zero, i.size, i.bytes)) = some (some (.agg #[.string ⟨#[]⟩, .string ⟨#[]⟩]), 2, 32) by kernel_rfl)
  exact ⟨i0, _, hi, hz0, hz1, hz2, rfl⟩
/-- A file's two cells. -/
def fileV (f : Sp.File) : List Value := [.string (strOf f.1), .string (strOf f.2)]
theorem flat_get (l : List Sp.File) (k i : Nat) (h : k < l.length) (hi : i < 2) : (l.flatMap fileV)[k * 2 + i]? = (fileV l[k])[i]? := by
  induction l generalizing k with
  | nil => simp at h
  | cons f r ih =>
    cases k with
    | zero =>
      rw [List.flatMap_cons, List.getElem?_append_left (by simp [fileV]; omega)]; simp
    | succ k =>
      rw [List.flatMap_cons, List.getElem?_append_right (by simp [fileV]; omega)]
      have := ih k (by simpa using h)
      rw [show (k + 1) * 2 + i - (fileV f).length = k * 2 + i by simp [fileV]; omega, this]
      simp
/-- A slice of the call's own that holds files. -/
theorem owned_files {w : World} {B g n cap : Nat} {t : TypeId} {l : List Sp.File} (h : w.ownsRow B t 2 (.slice (some ⟨g, 0, none⟩) n cap) n (l.flatMap fileV)) (hn : n = l.length) : Fs w g 0 l := fun k hk => by
  constructor
  · rw [h.cellAt (0 + k * 2) (by omega), Nat.zero_add]
    have := flat_get l k 0 hk (by decide)
    rw [Nat.add_zero] at this
    rw [this]; rfl
  · rw [h.cellAt (0 + k * 2 + 1) (by omega), Nat.zero_add, flat_get l k 1 hk (by decide)]; rfl
set_option maxRecDepth 100000 in
set_option maxHeartbeats 2000000 in
theorem own_calls (l : List Sp.File) (A : Option Addr) (cap : Nat) (w : World) (hf : FsA w A l) (hl : l.length ≤ 1000) :
    Calls Tryd.prog 21 #[.slice A l.length cap] w fun e w' => ∃ A' cap', e = .returned (.slice A' l.length cap') ∧ FsA w' A' l ∧ Below w.heap.size w w' := by
  go_enter Tryd.func21, Tryd.ntmps21
  go_wp2_with fail
  go_loopw [3, 4] (fun v3 v4 wr => ∃ k : Nat, k ≤ l.length ∧ v4 = .int .i64 k ∧ wr.ownsRow w.heap.size 57 2 v3 k ((l.take k).flatMap fileV) ∧ Below w.heap.size w wr) (fun _ v4 _ => l.length - (intOf v4).toNat)
  case atStart => exact ⟨0, Nat.zero_le _, rfl, World.ownsRow_nil _ _ _ _, Below.refl _ _⟩
  case round =>
    obtain ⟨k, hk, rfl, hown, hb⟩ := hrel
    by_cases hlt : k < l.length
    · have q1 : decide ((k : Int) < (l.length : Int)) = true := by rw [decide_eq_true_iff]; omega
      obtain ⟨g, o, rfl, hF⟩ := hf (by rintro rfl; simp at hlt)
      obtain ⟨c1, c2⟩ := hF.below hb k hlt
      obtain ⟨A2, n2, cap2, rfl⟩ := own_slice hown
      go_wp2_with fail
      refine wp_region_det_pre (fun W => W = wr.drew) 1 12 (by kernel_rfl) (by kernel_rfl) rfl ?_
      simp only [List.take_succ_cons, List.take_zero, List.drop_succ_cons, List.drop_zero]
      repeat (first
        | (refine float_step (fun K hK => ?_)
           apply Exists.intro
           refine ⟨Or.inl ⟨rfl, fun W => ?_⟩, ?_⟩
           · go_simp
             first
             | done
             | exact rfl
           go_simp
           refine hK _ ?_
           clear hK K))
      refine float_nil ?_
      repeat (first
        | (refine det_step (fun K hK => ?_)
           apply Exists.intro
           refine ⟨Or.inl ⟨rfl, fun W hS => ?_⟩, ?_⟩
           · obtain rfl : W = wr.drew := hS
             go_simp
             first
             | exact rfl
             | exact ⟨rfl, hS⟩
             | (exact ⟨rfl, rfl⟩)
           go_simp
           refine hK _ ?_
           clear hK K)
        | (refine det_step (fun K hK => ?_); refine det_no' rfl ?_; go_simp; refine hK _ ?_; clear hK K))
      refine det_nil ?_
      intro W5 hS
      obtain rfl : W5 = wr.drew := hS
      have hdr : Below w.heap.size w wr.drew := hb.drew
      go_wp2_with (at_builtin; refine app_new appF rfl _ _ rfl w.heap.size _ k _ rfl (owned_drew hown) #[.string (strOf l[k].1), .string (strOf l[k].2)] 57 1 rfl rfl (by intro u hu; simp at hu; rcases hu with rfl | rfl <;> rfl) (by decide) (by omega) hb.size ?_; intro g2 cap2 w3 hown3 hgr3 hbl3 hbg3)
      refine ⟨rfl, ?_⟩
      go_wp2_with fail
      go_roundw
      case rel =>
        refine ⟨k + 1, by omega, by go_num, ?_, hdr.trans hbl3⟩
        rw [List.take_add_one, List.getElem?_eq_getElem hlt, Option.toList_some, List.flatMap_append]
        exact hown3
      case measure => simp [intOf]; omega
    · obtain rfl : k = l.length := by omega
      rw [List.take_length] at hown
      have HO := Lib.hid hown
      obtain ⟨A2, n2, cap2, rfl⟩ := own_slice hown
      have hn2 : n2 = l.length := by
        rcases hown.2 with ⟨h1, h2⟩ | ⟨g', cap', cur, h1, _⟩
        · injection h1 with _ h3; omega
        · injection h1
      subst hn2
      clear hown
      go_wp2_with fail
      go_ret
      refine ⟨A2, cap2, rfl, fun hn => ?_, hb⟩
      obtain ⟨g', cap', he, _⟩ := owned_form HO.out (List.length_pos_iff.2 hn)
      injection he with h1 _ h3
      subst h1; subst h3
      exact ⟨_, _, rfl, owned_files HO.out rfl⟩
/-- Chapter 47's example. -/
theorem sealed_nil : Sp.pbytes [] = (Sp.sealed [104, 97, 1, 0], 0) := by decide +kernel
set_option maxRecDepth 100000 in
set_option maxHeartbeats 2000000 in
theorem pawake_calls (w : World) (hsh : ∃ m, w.cell? ⟨0, 0, none⟩ = some (.int .i64 m)) :
    Calls Tryd.prog 19 #[] w fun e w' => e = .returned (.bool true) ∧ Below w.heap.size w w' := by
  have B := Lib.hid (packbytes_calls [] none 0 w (fun h => absurd rfl h) (by decide) (by simp) hsh)
  rw [sealed_nil] at B
  obtain ⟨s, hs⟩ : ∃ s, s = strOf (Sp.sealed [104, 97, 1, 0]) := ⟨_, rfl⟩
  have s1 : s.size = 8 := by rw [hs]; decide +kernel
  have s2 : (s.extract 0 4).toList = [104, 97, 1, 0] := by rw [hs]; decide +kernel
  simp only [← hs, List.length_nil] at B
  clear hs hsh
  go_enter Tryd.func19, Tryd.ntmps19
  go_wp2_with (go_at_call 20; refine B.out.mono ?_; rintro e w1 ⟨rfl, hb1⟩)
  go_ret
  exact ⟨rfl, hb1⟩
set_option maxRecDepth 100000 in
set_option maxHeartbeats 2000000 in
theorem writes_calls (l : List Sp.File) (A : Option Addr) (cap : Nat) (w : World) (hf : FsA w A l) (hsh : ∃ m, w.cell? ⟨0, 0, none⟩ = some (.int .i64 m)) :
    Calls Tryd.prog 6 #[.slice A l.length cap] w fun e w' => e = .returned (.bool true) ∧ Below w.heap.size w w' := by
  have GR := Lib.hid (great_calls l A cap w hf)
  have AW := Lib.hid fun W (hW : Below w.heap.size w W) => pawake_calls W (max_kept hsh hW)
  cases hg : greatOf l with
  | true =>
    rw [hg] at GR
    clear hg hsh
    go_enter Tryd.func6, Tryd.ntmps6
    go_wp2_with (first
      | (go_at_call 18; refine GR.out.mono ?_; rintro e w1 ⟨rfl, rfl⟩)
      | (go_at_call 19; refine (AW.out w (Below.refl _ _)).mono ?_; rintro e w1 ⟨rfl, hb1⟩))
    go_ret
    exact ⟨rfl, hb1⟩
  | false =>
    rw [hg] at GR
    obtain ⟨h1, h2⟩ := great_not hg
    have OW := Lib.hid (own_calls l A cap w hf (by omega))
    have PB := Lib.hid fun A' cap' W (hW : Below w.heap.size w W) (h : FsA W A' l) => packbytes_calls l A' cap' W h (by omega) (fun f hm => by have := h2 f hm; omega) (max_kept hsh hW)
    have RB := Lib.hid fun W (hW : Below w.heap.size w W) => rpackbytes_calls l A cap W (hf.below hW) (by omega) (fun f hm => by have := h2 f hm; omega)
    obtain ⟨s, hs⟩ : ∃ s, s = strOf (Sp.pbytes l).1 := ⟨_, rfl⟩
    obtain ⟨x, hx⟩ : ∃ x, x = (Sp.pbytes l).2 := ⟨_, rfl⟩
    simp only [← hs, ← hx] at PB RB
    clear hg hsh h1 h2 hs hx
    go_enter Tryd.func6, Tryd.ntmps6
    go_wp2_with (first
      | (go_at_call 18; refine GR.out.mono ?_; rintro e w1 ⟨rfl, rfl⟩)
      | (go_at_call 21; refine OW.out.mono ?_; rintro e w1 ⟨A2, cap2, rfl, hf1, hb1⟩; have F1 := Lib.hid hf1; have B1 := Lib.hid hb1; clear hf1 hb1)
      | (go_at_call 20; refine (PB.out _ _ _ B1.out F1.out).mono ?_; rintro e w2 ⟨rfl, hb2⟩; have B2 := Lib.hid (B1.out.trans (hb2.mono B1.out.size)); clear hb2)
      | (go_at_call 22; refine (RB.out _ B2.out).mono ?_; rintro e w3 ⟨rfl, hb3⟩; have B3 := Lib.hid (B2.out.trans (hb3.mono B2.out.size)); clear hb3)
      | (go_at_call 19; refine (AW.out _ B3.out).mono ?_; rintro e w4 ⟨rfl, hb4⟩))
    go_ret
    exact ⟨rfl, B3.out.trans (hb4.mono B3.out.size)⟩
end Go.Proofs.YtbjdgiocehoaiaaDoor
