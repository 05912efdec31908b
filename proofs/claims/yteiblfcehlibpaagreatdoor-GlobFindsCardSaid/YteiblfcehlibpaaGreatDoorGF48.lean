/- Walks: a piece over a name, a pattern over a path, the reference's, by rows. -/
import Derived.Test.YteiblfcehlibpaaGreatDoorGF46
import Derived.Test.YteiblfcehlibpaaGreatDoorGF47
import Derived.Test.YteiblfcehlibpaaGreatDoorGF01
import Derived.StillTailTactics
namespace Go.Proofs.YteiblfcehlibpaaGreatDoor
open Go.RowKit

attribute [local go_sem] yUpon
theorem make43 : MakeStat Tryz.prog 103 4 (.bool false) 1 := by
  refine ⟨Tryz.underlying103, rfl, ?_⟩
  obtain ⟨i0, hi, hz0, hz1, hz2⟩ := info_parts (show (Tryz.prog.info? 4).map (fun i => (i.zero, i.size, i.bytes)) = some (some (.bool false), 1, 1) by kernel_rfl)
  exact ⟨i0, hi, hz0, hz1, hz2⟩

/-- A row of a reckoning by rows: behind the first i of the pattern. -/
def rowV (f : Nat → Bool) (n : Nat) : List Value := (List.range n).map fun k => .bool (f k)
/-- The same, as far as k. -/
def rowTo (f : Nat → Bool) (n k : Nat) : List Value := (List.range n).map fun j => .bool (decide (j < k) && f j)
theorem rowV_len (f : Nat → Bool) (n : Nat) : (rowV f n).length = n := by simp [rowV]
theorem rowTo_len (f : Nat → Bool) (n k : Nat) : (rowTo f n k).length = n := by simp [rowTo]
theorem rowV_get (f : Nat → Bool) (n k : Nat) (h : k < n) : (rowV f n)[k]'(by rw [rowV_len]; exact h) = .bool (f k) := by simp [rowV]
theorem rowTo_get (f : Nat → Bool) (n k j : Nat) (h : j < n) : (rowTo f n k)[j]'(by rw [rowTo_len]; exact h) = .bool (decide (j < k) && f j) := by simp [rowTo]
theorem rowTo_zero (f : Nat → Bool) (n : Nat) : rowTo f n 0 = List.replicate n (.bool false) := by
  apply List.ext_getElem (by simp [rowTo]); intro j h1 h2; simp [rowTo]
theorem rowTo_full (f : Nat → Bool) (n : Nat) : rowTo f n n = rowV f n := by
  apply List.ext_getElem (by simp [rowTo, rowV]); intro j h1 h2
  rw [rowTo_len] at h1
  rw [rowTo_get f n n j h1, rowV_get f n j h1]; simp [h1]
theorem rowTo_set (f : Nat → Bool) (n k : Nat) (v : Bool) (hv : v = f k) : (rowTo f n k).set k (.bool v) = rowTo f n (k + 1) := by
  subst hv
  apply List.ext_getElem (by simp [rowTo]); intro j h1 h2
  have hj : j < n := by rw [rowTo_len] at h2; exact h2
  rw [List.getElem_set, rowTo_get f n (k + 1) j hj]
  by_cases e : k = j
  · subst e; simp
  · rw [if_neg e, rowTo_get f n k j hj]
    have : decide (j < k) = decide (j < k + 1) := by rw [decide_eq_decide]; omega
    rw [this]

/-- The i-th row. -/
def pmRow (p s : ByteArray) (i k : Nat) : Bool := Sp.pm (p.data.toList.take i) (s.data.toList.take k)
theorem pmRow_start (p s : ByteArray) : (List.replicate (s.size + 1) (Value.bool false)).set 0 (.bool true) = rowV (pmRow p s 0) (s.size + 1) := by
  apply List.ext_getElem (by simp [rowV]); intro j h1 h2
  have hj : j < s.size + 1 := by rw [rowV_len] at h2; exact h2
  rw [rowV_get _ _ j hj]
  have : pmRow p s 0 j = decide (j = 0) := by
    have := Sp.pm_row_nil s.data.toList j (by simpa using (by omega : j ≤ s.size))
    simpa [pmRow] using this
  rw [this, List.getElem_set]
  cases j <;> simp

theorem rowTo_skip (f : Nat → Bool) (n k : Nat) (h : f k = false) : rowTo f n k = rowTo f n (k + 1) := by
  apply List.ext_getElem (by simp [rowTo]); intro j h1 h2
  have hj : j < n := by rw [rowTo_len] at h2; exact h2
  rw [rowTo_get f n k j hj, rowTo_get f n (k + 1) j hj]
  by_cases e : j = k
  · subst e; rw [h]; simp
  · have : decide (j < k) = decide (j < k + 1) := by rw [decide_eq_decide]; omega
    rw [this]
theorem owned_set {w : World} {base g n cap k : Nat} {e : TypeId} {f : Nat → Bool} (h : w.ownsRow base e 1 (.slice (some ⟨g, 0, none⟩) n cap) n (rowTo f n k)) (v : Bool) (hv : v = f k) : (w.setCell ⟨g, k, none⟩ (.bool v)).ownsRow base e 1 (.slice (some ⟨g, 0, none⟩) n cap) n (rowTo f n (k + 1)) := by
  have := (h.stored k (.bool v)).1
  rwa [rowTo_set f n k v hv] at this

set_option maxRecDepth 100000 in
set_option maxHeartbeats 4000000 in
theorem rpm_calls (p s : ByteArray) (w : World) (hp : p.size < 4294967200) (hs : s.size < 4294967200) :
    Calls Tryz.prog 78 #[.string p, .string s] w fun e w' => e = .returned (.bool (Sp.gpiece p.data.toList s.data.toList)) ∧ Below w.heap.size w w' := by
  have hl : p.data.toList.length = p.size := by simp
  by_cases h1 : 24 < p.size
  · have F := Lib.hid (show Sp.gpiece p.data.toList s.data.toList = false by unfold Sp.gpiece; rw [hl, decide_eq_false (show ¬ p.size ≤ 24 by omega)]; rfl)
    have e1 : decide ((24 : Int) < (p.size : Int)) = true := by simp; omega
    clear h1 hl
    go_enter Tryz.func78, Tryz.ntmps78
    go_wp2_with fail
    go_ret
    exact ⟨ret_bool F.out.symm, Below.refl _ _⟩
  have e1 : decide ((24 : Int) < (p.size : Int)) = false := by simp; omega
  by_cases h2 : p.toList = [42, 42]
  · have F := Lib.hid (show Sp.gpiece p.data.toList s.data.toList = false by rw [toList_data] at h2; unfold Sp.gpiece; rw [h2]; rfl)
    clear h1 hl
    go_enter Tryz.func78, Tryz.ntmps78
    go_wp2_with fail
    go_ret
    exact ⟨ret_bool F.out.symm, Below.refl _ _⟩
  have e2 : (p.toList == [42, 42]) = false := by simpa using h2
  have hg : Sp.gpiece p.data.toList s.data.toList = (Sp.piece p.data.toList && Sp.name s.data.toList && Sp.pm p.data.toList s.data.toList) := by
    rw [toList_data] at h2
    unfold Sp.gpiece; rw [hl, decide_eq_true (show p.size ≤ 24 by omega), decide_eq_true h2]; rfl
  have G := Lib.hid hg
  clear hg h2 hl
  cases q1 : Sp.piece p.data.toList with
  | false =>
    have F := Lib.hid (show Sp.gpiece p.data.toList s.data.toList = false by rw [G.out, q1]; rfl)
    have PC := Lib.hid (rpiece_calls p w (by omega))
    rw [q1] at PC
    clear G q1
    go_enter Tryz.func78, Tryz.ntmps78
    go_wp2_with (go_at_call 112; refine PC.out.mono ?_; rintro e w' ⟨rfl, hb⟩)
    go_ret
    exact ⟨ret_bool F.out.symm, hb⟩
  | true =>
    have PC := Lib.hid (rpiece_calls p w (by omega))
    rw [q1] at PC
    have NC := Lib.hid fun W => rname_calls s W (by omega)
    cases q2 : Sp.name s.data.toList with
    | false =>
      have F := Lib.hid (show Sp.gpiece p.data.toList s.data.toList = false by rw [G.out, q1, q2]; rfl)
      rw [q2] at NC
      clear G q1 q2
      go_enter Tryz.func78, Tryz.ntmps78
      go_wp2_with (first | (go_at_call 112; refine PC.out.mono ?_; rintro e w' ⟨rfl, hb⟩) | (go_at_call 108; refine (NC.out _).mono ?_; rintro e w' ⟨rfl, rfl⟩))
      go_ret
      exact ⟨ret_bool F.out.symm, hb⟩
    | true =>
      have F := Lib.hid (show Sp.gpiece p.data.toList s.data.toList = Sp.pm p.data.toList s.data.toList by rw [G.out, q1, q2]; rfl)
      rw [q2] at NC
      clear G q1 q2 h1
      go_enter Tryz.func78, Tryz.ntmps78
      go_wp2_with (first | (go_at_call 112; refine PC.out.mono ?_; rintro e w1 ⟨rfl, hb1⟩) | (go_at_call 108; refine (NC.out _).mono ?_; rintro e w' ⟨rfl, rfl⟩) | (refine make_new make43 rfl _ _ rfl (s.size + 1) rfl rfl ?c1 ?c2 ?_; (case c1 => omega); (case c2 => (unfold maxLen; omega)); intro g w2 hg hown hb2; have hc0 : w2.cell? ⟨g, 0, none⟩ = some (.bool false) := (owned_get hown 0 (by omega) (by simp)).trans (by simp); have hf0 := hown.frozenAt 0))
      have hown1 := (hown.stored 0 (.bool true)).1
      rw [pmRow_start p s] at hown1
      have hb3 : Below w1.heap.size w1 (w2.setCell ⟨g, 0, none⟩ (.bool true)) := hb2.setCell hg _
      obtain ⟨W3, hW3⟩ : ∃ W3, W3 = w2.setCell ⟨g, 0, none⟩ (.bool true) := ⟨_, rfl⟩
      rw [← hW3] at hown1 hb3
      rw [← hW3]
      clear hW3 hown hc0 hf0 hb2
      have hn : s.size < 4294967200 := hs
      go_loopw [5, 6, 7, 8] (fun v5 v6 _ _ wr => ∃ (i g5 : Nat), i ≤ p.size ∧ v6 = .int .i64 i ∧ v5 = .slice (some ⟨g5, 0, none⟩) (s.size + 1) (s.size + 1) ∧ wr.ownsRow w1.heap.size 4 1 (.slice (some ⟨g5, 0, none⟩) (s.size + 1) (s.size + 1)) (s.size + 1) (rowV (pmRow p s i) (s.size + 1)) ∧ Below w1.heap.size w1 wr) (fun _ i _ _ _ => p.size - (intOf i).toNat)
      case atStart => exact ⟨0, g, Nat.zero_le _, rfl, rfl, hown1, hb3⟩
      case round =>
        obtain ⟨i, g5, hi, rfl, rfl, hrow, hbr⟩ := hrel
        by_cases hlt : i < p.size
        · go_wp2_with (refine make_new make43 rfl _ _ rfl (s.size + 1) rfl rfl ?c1 ?c2 ?_; (case c1 => omega); (case c2 => (unfold maxLen; omega)); intro g7 w4 hg7 hnew hb4)
          have hrow4 := owned_below hrow hb4
          have hne : g5 ≠ g7 := by have := (hrow.lt g5 rfl).2; omega
          have hg7' : w1.heap.size ≤ g7 := Nat.le_trans hbr.size hg7
          have hbr4 : Below w1.heap.size w1 w4 := hbr.trans (hb4.mono hbr.size)
          have hnew' : w4.ownsRow w1.heap.size 4 1 (.slice (some ⟨g7, 0, none⟩) (s.size + 1) (s.size + 1)) (s.size + 1) (rowTo (pmRow p s (i + 1)) (s.size + 1) 0) := by
            rw [rowTo_zero]; exact ⟨hnew.1, hnew.2.imp id fun ⟨a, b, c, h1, h2, h3⟩ => ⟨a, b, c, h1, Nat.le_trans hbr.size h2, h3⟩⟩
          clear hrow hnew hb4 hbr hg7
          go_loopw [8] (fun v8 wr => ∃ k : Nat, k ≤ s.size + 1 ∧ v8 = .int .i64 k ∧ wr.ownsRow w1.heap.size 4 1 (.slice (some ⟨g5, 0, none⟩) (s.size + 1) (s.size + 1)) (s.size + 1) (rowV (pmRow p s i) (s.size + 1)) ∧ wr.ownsRow w1.heap.size 4 1 (.slice (some ⟨g7, 0, none⟩) (s.size + 1) (s.size + 1)) (s.size + 1) (rowTo (pmRow p s (i + 1)) (s.size + 1) k) ∧ Below w1.heap.size w1 wr) (fun v8 _ => s.size + 1 - (intOf v8).toNat)
          case atStart => exact ⟨0, Nat.zero_le _, rfl, hrow4, hnew', hbr4⟩
          case round =>
            obtain ⟨k, hk, rfl, hr5, hr7, hbk⟩ := hrel
            by_cases hlk : k < s.size + 1
            · have hnow : ∀ j, j < s.size + 1 → wr.cell? ⟨g5, j, none⟩ = some (.bool (pmRow p s i j)) := fun j hj => by
                rw [owned_get hr5 j hj (by rw [rowV_len]; exact hj), rowV_get _ _ _ hj]
              have hnext : ∀ j, j < s.size + 1 → wr.cell? ⟨g7, j, none⟩ = some (.bool (decide (j < k) && pmRow p s (i + 1) j)) := fun j hj => by
                rw [owned_get hr7 j hj (by rw [rowTo_len]; exact hj), rowTo_get _ _ _ _ hj]
              have hz := Sp.pm_row_zero p.data.toList s.data.toList i (by simpa using hlt)
              have hpi : p.data.toList[i]'(by simpa using hlt) = p[i] := rfl
              have NOW := Lib.hid hnow
              have NEXT := Lib.hid hnext
              have R5 := Lib.hid hr5
              have R7 := Lib.hid hr7
              have hfr := hr7.frozenAt k
              have hck := hnext k hlk
              simp only [Nat.lt_irrefl, decide_false, Bool.false_and] at hck
              by_cases hc : p[i] = 42
              · have b1 : (((p[i]).toNat : Int) == 42) = true := by rw [hc]; rfl
                cases k with
                | zero =>
                  have V := Lib.hid (show pmRow p s i 0 = pmRow p s (i + 1) 0 by unfold pmRow; rw [hz, hpi, hc]; simp)
                  have h5 := hnow 0 (by omega)
                  obtain ⟨u, hu⟩ : ∃ u, pmRow p s i 0 = u := ⟨_, rfl⟩
                  rw [hu] at h5 V
                  clear hnow hnext hz hpi hr5 hr7 hc hu
                  cases u
                  all_goals
                    go_wp2_with fail
                    go_roundw
                    case rel => exact ⟨1, by omega, by go_num, owned_far R5.out hne _, owned_set R7.out _ V.out, hbk.setCell hg7' _⟩
                    case measure => simp [intOf]
                | succ j =>
                  have hj : j < s.size := by omega
                  have V := Lib.hid (show (pmRow p s i (j + 1) || pmRow p s (i + 1) j) = pmRow p s (i + 1) (j + 1) by
                    unfold pmRow
                    rw [Sp.pm_row_succ p.data.toList s.data.toList i j (by simpa using hlt) (by simpa using hj), hpi, if_pos hc])
                  have h5 := hnow (j + 1) (by omega)
                  have h7 := hnext j (by omega)
                  simp only [Nat.lt_succ_self, decide_true, Bool.true_and] at h7
                  obtain ⟨u, hu⟩ : ∃ u, pmRow p s i (j + 1) = u := ⟨_, rfl⟩
                  obtain ⟨x, hx⟩ : ∃ x, pmRow p s (i + 1) j = x := ⟨_, rfl⟩
                  rw [hu] at h5
                  rw [hx] at h7
                  rw [hu, hx] at V
                  clear hnow hnext hz hpi hr5 hr7 hc hu hx
                  cases u
                  all_goals
                    go_wp2_with fail
                    go_roundw
                    case rel => exact ⟨j + 1 + 1, by omega, by go_num, owned_far R5.out hne _, owned_set R7.out _ (by rw [← V.out]; simp), hbk.setCell hg7' _⟩
                    case measure => simp [intOf]; omega
              · have b1 : (((p[i]).toNat : Int) == 42) = false := by
                  rw [beq_eq_false_iff_ne]; intro e; exact hc (UInt8.toNat_inj.1 (by simpa using (by omega : (p[i]).toNat = 42)))
                cases k with
                | zero =>
                  have V := Lib.hid (show pmRow p s (i + 1) 0 = false by unfold pmRow; rw [hz, hpi]; simp [hc])
                  clear hnow hnext hz hpi hr5 hr7 hc
                  go_wp2_with fail
                  go_roundw
                  case rel => exact ⟨1, by omega, by go_num, R5.out, by rw [← rowTo_skip _ _ _ V.out]; exact R7.out, hbk⟩
                  case measure => simp [intOf]
                | succ j =>
                  have hj : j < s.size := by omega
                  have V := Lib.hid (show ((decide (p[i] = 63) || decide (p[i] = s[j])) && pmRow p s i j) = pmRow p s (i + 1) (j + 1) by
                    unfold pmRow
                    rw [Sp.pm_row_succ p.data.toList s.data.toList i j (by simpa using hlt) (by simpa using hj), hpi, if_neg hc]; rfl)
                  have h5 := hnow j (by omega)
                  obtain ⟨u, hu⟩ : ∃ u, pmRow p s i j = u := ⟨_, rfl⟩
                  rw [hu] at h5 V
                  clear hnow hnext hz hpi hr5 hr7 hc hu
                  have key : ∀ v, v = pmRow p s (i + 1) (j + 1) → (∃ x : Nat, x ≤ s.size + 1 ∧ Value.int .i64 ((j : Int) + 1 + 1) = .int .i64 (x : Int) ∧ (wr.drew.setCell ⟨g7, j + 1, none⟩ (.bool v)).ownsRow w1.heap.size 4 1 (.slice (some ⟨g5, 0, none⟩) (s.size + 1) (s.size + 1)) (s.size + 1) (rowV (pmRow p s i) (s.size + 1)) ∧ (wr.drew.setCell ⟨g7, j + 1, none⟩ (.bool v)).ownsRow w1.heap.size 4 1 (.slice (some ⟨g7, 0, none⟩) (s.size + 1) (s.size + 1)) (s.size + 1) (rowTo (pmRow p s (i + 1)) (s.size + 1) x) ∧ Below w1.heap.size w1 (wr.drew.setCell ⟨g7, j + 1, none⟩ (.bool v))) := fun v hv =>
                    ⟨j + 1 + 1, by omega, by go_num, owned_far (w := wr.drew) R5.out hne _, owned_set (w := wr.drew) R7.out _ hv, hbk.drew.setCell hg7' _⟩
                  have q1 : IntKind.i64.wrap (j : Int) = (j : Int) := IntWalk.i64_in _ (by omega)
                  have q2 : (j : Int) < (s.size : Int) + 1 := by omega
                  have KEY := Lib.hid key
                  clear key
                  cases u
                  · go_wp2_with fail
                    refine wp_region_det_tail (fun W => W = wr.drew) 24 (by kernel_rfl) (by kernel_rfl) rfl ?_
                    simp only [List.take_succ_cons, List.take_zero, List.drop_succ_cons, List.drop_zero]
                    repeat (first
                      | (refine det_step (fun K hK => ?_)
                         apply Exists.intro
                         refine ⟨Or.inl ⟨rfl, fun W hS => ?_⟩, ?_⟩
                         · obtain rfl : W = wr.drew := hS
                           go_simp
                           first
                           | exact rfl
                           | exact ⟨rfl, rfl⟩
                         go_simp
                         refine hK _ ?_
                         clear hK K)
                      | (refine det_step (fun K hK => ?_); refine det_no' rfl ?_; go_simp; refine hK _ ?_; clear hK K))
                    refine det_nil ?_
                    intro w' hS
                    obtain rfl : w' = wr.drew := hS
                    go_wp2_with fail
                    go_roundw
                    case rel => exact KEY.out _ (by rw [← V.out]; simp)
                    case measure => simp [intOf]; omega
                  · by_cases hq : p[i] = 63
                    · have b2 : (((p[i]).toNat : Int) == 63) = true := by rw [hq]; rfl
                      have HQ := Lib.hid hq
                      clear hq
                      go_wp2_with fail
                      refine wp_region_det_tail (fun W => W = wr.drew) 24 (by kernel_rfl) (by kernel_rfl) rfl ?_
                      simp only [List.take_succ_cons, List.take_zero, List.drop_succ_cons, List.drop_zero]
                      repeat (first
                        | (refine det_step (fun K hK => ?_)
                           apply Exists.intro
                           refine ⟨Or.inl ⟨rfl, fun W hS => ?_⟩, ?_⟩
                           · obtain rfl : W = wr.drew := hS
                             go_simp
                             first
                             | exact rfl
                             | exact ⟨rfl, rfl⟩
                           go_simp
                           refine hK _ ?_
                           clear hK K)
                        | (refine det_step (fun K hK => ?_); refine det_no' rfl ?_; go_simp; refine hK _ ?_; clear hK K))
                      refine det_nil ?_
                      intro w' hS
                      obtain rfl : w' = wr.drew := hS
                      go_wp2_with fail
                      go_roundw
                      case rel => exact KEY.out _ (by rw [← V.out, HQ.out]; simp)
                      case measure => simp [intOf]; omega
                    · have b2 : (((p[i]).toNat : Int) == 63) = false := by
                        rw [beq_eq_false_iff_ne]; intro e; exact hq (UInt8.toNat_inj.1 (by simpa using (by omega : (p[i]).toNat = 63)))
                      have b3 : (((p[i]).toNat : Int) == ((s[j]).toNat : Int)) = decide (p[i] = s[j]) := by
                        rw [Bool.eq_iff_iff, beq_iff_eq, decide_eq_true_eq, ← UInt8.toNat_inj]; omega
                      have HQ := Lib.hid hq
                      clear hq
                      go_wp2_with fail
                      refine wp_region_det_tail (fun W => W = wr.drew) 24 (by kernel_rfl) (by kernel_rfl) rfl ?_
                      simp only [List.take_succ_cons, List.take_zero, List.drop_succ_cons, List.drop_zero]
                      repeat (first
                        | (refine det_step (fun K hK => ?_)
                           apply Exists.intro
                           refine ⟨Or.inl ⟨rfl, fun W hS => ?_⟩, ?_⟩
                           · obtain rfl : W = wr.drew := hS
                             go_simp
                             first
                             | exact rfl
                             | exact ⟨rfl, rfl⟩
                           go_simp
                           refine hK _ ?_
                           clear hK K)
                        | (refine det_step (fun K hK => ?_); refine det_no' rfl ?_; go_simp; refine hK _ ?_; clear hK K))
                      refine det_nil ?_
                      intro w' hS
                      obtain rfl : w' = wr.drew := hS
                      go_wp2_with fail
                      go_roundw
                      case rel => exact KEY.out _ (by rw [← V.out]; simp [HQ.out])
                      case measure => simp [intOf]; omega
            · obtain rfl : k = s.size + 1 := by omega
              rw [rowTo_full] at hr7
              go_wp2_with fail
              go_roundw
              case rel => exact ⟨i + 1, g7, by omega, by go_num, rfl, hr7, hbk⟩
              case measure => simp [intOf]; omega
        · obtain rfl : i = p.size := by omega
          have hcell : wr.cell? ⟨g5, s.size, none⟩ = some (.bool (Sp.pm p.data.toList s.data.toList)) := by
            rw [owned_get hrow s.size (by omega) (by rw [rowV_len]; omega), rowV_get _ _ _ (by omega)]
            unfold pmRow; rw [take_size, take_size]
          clear hrow
          go_wp2_with fail
          go_ret
          exact ⟨ret_bool F.out.symm, keep_below hb1 hbr⟩

/-- The i-th row, of a pattern over a path. -/
def lmRow (L M : List ByteArray) (i k : Nat) : Bool := Sp.lm ((L.map (·.data.toList)).take i) ((M.map (·.data.toList)).take k)
theorem lmRow_start (L M : List ByteArray) : (List.replicate (M.length + 1) (Value.bool false)).set 0 (.bool true) = rowV (lmRow L M 0) (M.length + 1) := by
  apply List.ext_getElem (by simp [rowV]); intro j h1 h2
  have hj : j < M.length + 1 := by rw [rowV_len] at h2; exact h2
  rw [rowV_get _ _ j hj]
  have : lmRow L M 0 j = decide (j = 0) := by
    unfold lmRow
    rw [List.take_zero, Sp.lm]
    cases j with
    | zero => simp
    | succ j =>
      cases M with
      | nil => simp at hj
      | cons x M => simp
  rw [this, List.getElem_set]
  cases j <;> simp

set_option maxRecDepth 100000 in
set_option maxHeartbeats 4000000 in
theorem rlm_calls (p s : ByteArray) (w : World) (hp : p.size ≤ 900) (hs : s.size < 4294967200) :
    Calls Tryz.prog 41 #[.string p, .string s] w fun e w' => e = .returned (.bool (Sp.gmatch p.data.toList s.data.toList)) ∧ Below w.heap.size w w' := by
  by_cases hc : Sp.gcheck p.data.toList = 0
  · have e0 : (Sp.gcheck p.data.toList != 0) = false := by rw [hc]; rfl
    by_cases hq : Sp.parts s.data.toList = []
    · have F := Lib.hid (show Sp.gmatch p.data.toList s.data.toList = false by unfold Sp.gmatch; rw [hq]; simp)
      have HQ := Lib.hid hq
      clear hq hc
      go_enter Tryz.func41, Tryz.ntmps41
      go_wp2_with fail
      refine (pieces_calls p _ (by omega)).mono ?_
      rintro e w0 ⟨hb0, ⟨h0, _⟩ | ⟨gl, cl, L, hl0, _, rfl, hL, _, _⟩⟩
      · exact absurd h0 (Sp.split_ne _)
      clear hL
      go_wp2_with fail
      refine (rparts_calls s _ hs).mono ?_
      rintro e w1 ⟨hb, ⟨_, rfl⟩ | ⟨g, cap, M, hl, _, rfl, hM, _⟩⟩
      · go_wp2_with fail
        refine (rgcheck_calls p _ (by omega)).mono ?_
        rintro e w2 ⟨rfl, hb2⟩
        go_wp2
        go_ret
        exact ⟨ret_bool F.out.symm, keep_below (keep_below hb0 hb) hb2⟩
      · rw [HQ.out, List.map_eq_nil_iff] at hM
        rw [hM] at hl; simp at hl
    · have F := Lib.hid (show Sp.gmatch p.data.toList s.data.toList = Sp.lm (Sp.split p.data.toList) (Sp.parts s.data.toList) by unfold Sp.gmatch; rw [hc]; simp [hq])
      go_enter Tryz.func41, Tryz.ntmps41
      go_wp2_with fail
      refine (pieces_calls p _ (by omega)).mono ?_
      rintro e w0 ⟨hb0, ⟨h0, _⟩ | ⟨gl, cl, L, hl0, hcl, rfl, hL, hSL, _⟩⟩
      · exact absurd h0 (Sp.split_ne _)
      have hLn := split_count p L hL
      have sL := short_split hL (by omega)
      have HL := Lib.hid hL
      have SL := Lib.hid hSL
      clear hL hSL
      go_wp2_with fail
      refine (rparts_calls s _ hs).mono ?_
      rintro e w1 ⟨hb1, ⟨h0, _⟩ | ⟨gm, cm, M, hm0, hcm, rfl, hM, hSM, _⟩⟩
      · exact absurd h0 hq
      have hM4 : M.length ≤ 4 := by have := parts_len s.data.toList; rw [← hM, List.length_map] at this; exact this
      have sM := short_parts hM
      have HM := Lib.hid hM
      have SM := Lib.hid hSM
      have hl1 : ((M.length : Int) == 0) = false := beq_eq_false_iff_ne.2 (by omega)
      clear hM hSM hq hc
      go_wp2_with fail
      refine (rgcheck_calls p _ (by omega)).mono ?_
      rintro e w2 ⟨rfl, hb2⟩
      go_wp2_with (refine make_new make43 rfl _ _ rfl (M.length + 1) rfl rfl ?c1 ?c2 ?_; (case c1 => omega); (case c2 => (unfold maxLen; omega)); intro g w3 hg hown hb3; have hc0 : w3.cell? ⟨g, 0, none⟩ = some (.bool false) := (owned_get hown 0 (by omega) (by simp)).trans (by simp); have hf0 := hown.frozenAt 0)
      have SL2 := Lib.hid ((SL.out.below hb1).below hb2)
      have SM2 := Lib.hid (SM.out.below hb2)
      have hbw := keep_below (keep_below hb0 hb1) hb2
      have hown1 := (hown.stored 0 (.bool true)).1
      rw [lmRow_start L M] at hown1
      have hb4 : Below w2.heap.size w2 (w3.setCell ⟨g, 0, none⟩ (.bool true)) := hb3.setCell hg _
      obtain ⟨W3, hW3⟩ : ∃ W3, W3 = w3.setCell ⟨g, 0, none⟩ (.bool true) := ⟨_, rfl⟩
      rw [← hW3] at hown1 hb4
      rw [← hW3]
      clear hW3 hown hc0 hf0 hb3 hb0 hb1 hb2 SL SM
      go_loopw [7, 8, 9, 10] (fun v7 v8 _ _ wr => ∃ (i g5 : Nat), i ≤ L.length ∧ v8 = .int .i64 i ∧ v7 = .slice (some ⟨g5, 0, none⟩) (M.length + 1) (M.length + 1) ∧ wr.ownsRow w2.heap.size 4 1 (.slice (some ⟨g5, 0, none⟩) (M.length + 1) (M.length + 1)) (M.length + 1) (rowV (lmRow L M i) (M.length + 1)) ∧ Below w2.heap.size w2 wr) (fun _ i _ _ _ => L.length - (intOf i).toNat)
      case atStart => exact ⟨0, g, Nat.zero_le _, rfl, rfl, hown1, hb4⟩
      case round =>
        obtain ⟨i, g5, hi, rfl, rfl, hrow, hbr⟩ := hrel
        by_cases hlt : i < L.length
        · go_wp2_with (refine make_new make43 rfl _ _ rfl (M.length + 1) rfl rfl ?c1 ?c2 ?_; (case c1 => omega); (case c2 => (unfold maxLen; omega)); intro g7 w4 hg7 hnew hb5)
          have hrow4 := owned_below hrow hb5
          have hne : g5 ≠ g7 := by have := (hrow.lt g5 rfl).2; omega
          have hg7' : w2.heap.size ≤ g7 := Nat.le_trans hbr.size hg7
          have hbr4 : Below w2.heap.size w2 w4 := hbr.trans (hb5.mono hbr.size)
          have hnew' : w4.ownsRow w2.heap.size 4 1 (.slice (some ⟨g7, 0, none⟩) (M.length + 1) (M.length + 1)) (M.length + 1) (rowTo (lmRow L M (i + 1)) (M.length + 1) 0) := by
            rw [rowTo_zero]; exact ⟨hnew.1, hnew.2.imp id fun ⟨a, b, c, h1, h2, h3⟩ => ⟨a, b, c, h1, Nat.le_trans hbr.size h2, h3⟩⟩
          clear hrow hnew hb5 hbr hg7
          go_loopw [10] (fun v8 wr => ∃ k : Nat, k ≤ M.length + 1 ∧ v8 = .int .i64 k ∧ wr.ownsRow w2.heap.size 4 1 (.slice (some ⟨g5, 0, none⟩) (M.length + 1) (M.length + 1)) (M.length + 1) (rowV (lmRow L M i) (M.length + 1)) ∧ wr.ownsRow w2.heap.size 4 1 (.slice (some ⟨g7, 0, none⟩) (M.length + 1) (M.length + 1)) (M.length + 1) (rowTo (lmRow L M (i + 1)) (M.length + 1) k) ∧ Below w2.heap.size w2 wr) (fun v8 _ => M.length + 1 - (intOf v8).toNat)
          case atStart => exact ⟨0, Nat.zero_le _, rfl, hrow4, hnew', hbr4⟩
          case round =>
            obtain ⟨k, hk, rfl, hr5, hr7, hbk⟩ := hrel
            by_cases hlk : k < M.length + 1
            · have hnow : ∀ j, j < M.length + 1 → wr.cell? ⟨g5, j, none⟩ = some (.bool (lmRow L M i j)) := fun j hj => by
                rw [owned_get hr5 j hj (by rw [rowV_len]; exact hj), rowV_get _ _ _ hj]
              have hnext : ∀ j, j < M.length + 1 → wr.cell? ⟨g7, j, none⟩ = some (.bool (decide (j < k) && lmRow L M (i + 1) j)) := fun j hj => by
                rw [owned_get hr7 j hj (by rw [rowTo_len]; exact hj), rowTo_get _ _ _ _ hj]
              have hz := Sp.lm_row_zero (L.map (·.data.toList)) (M.map (·.data.toList)) i (by simpa using hlt)
              have hpi : (L.map (·.data.toList))[i]'(by simpa using hlt) = L[i].data.toList := by simp
              have hx0 : wr.cell? ⟨gl, i, none⟩ = some (.string L[i]) := keep_cell (SL2.out i hlt) hbk
              have R5 := Lib.hid hr5
              have R7 := Lib.hid hr7
              have hfr := hr7.frozenAt k
              have hck := hnext k hlk
              simp only [Nat.lt_irrefl, decide_false, Bool.false_and] at hck
              by_cases hc : L[i].toList = [42, 42]
              · have hc' : L[i].data.toList = [42, 42] := by rw [← toList_data]; exact hc
                cases k with
                | zero =>
                  have V := Lib.hid (show lmRow L M i 0 = lmRow L M (i + 1) 0 by unfold lmRow; rw [hz, hpi, hc']; simp)
                  have h5 := hnow 0 (by omega)
                  obtain ⟨u, hu⟩ : ∃ u, lmRow L M i 0 = u := ⟨_, rfl⟩
                  rw [hu] at h5 V
                  clear hnow hnext hz hpi hr5 hr7 hc' hu
                  cases u
                  all_goals
                    go_wp2_with fail
                    go_roundw
                    case rel => exact ⟨1, by omega, by go_num, owned_far R5.out hne _, owned_set R7.out _ V.out, hbk.setCell hg7' _⟩
                    case measure => simp [intOf]
                | succ j =>
                  have hj : j < M.length := by omega
                  have V := Lib.hid (show (lmRow L M i (j + 1) || lmRow L M (i + 1) j) = lmRow L M (i + 1) (j + 1) by
                    unfold lmRow
                    rw [Sp.lm_row_succ _ _ i j (by simpa using hlt) (by simpa using hj), hpi, if_pos hc'])
                  have h5 := hnow (j + 1) (by omega)
                  have h7 := hnext j (by omega)
                  simp only [Nat.lt_succ_self, decide_true, Bool.true_and] at h7
                  obtain ⟨u, hu⟩ : ∃ u, lmRow L M i (j + 1) = u := ⟨_, rfl⟩
                  obtain ⟨x, hx⟩ : ∃ x, lmRow L M (i + 1) j = x := ⟨_, rfl⟩
                  rw [hu] at h5
                  rw [hx] at h7
                  rw [hu, hx] at V
                  clear hnow hnext hz hpi hr5 hr7 hc' hu hx
                  cases u
                  all_goals
                    go_wp2_with fail
                    go_roundw
                    case rel => exact ⟨j + 1 + 1, by omega, by go_num, owned_far R5.out hne _, owned_set R7.out _ (by rw [← V.out]; simp), hbk.setCell hg7' _⟩
                    case measure => simp [intOf]; omega
              · have hcb : (L[i].toList == [42, 42]) = false := by simpa using hc
                have hc' : ¬ L[i].data.toList = [42, 42] := by rw [← toList_data]; exact hc
                cases k with
                | zero =>
                  have V := Lib.hid (show lmRow L M (i + 1) 0 = false by unfold lmRow; rw [hz, hpi]; simp [hc'])
                  clear hnow hnext hz hpi hr5 hr7 hc hc'
                  go_wp2_with fail
                  go_roundw
                  case rel => exact ⟨1, by omega, by go_num, R5.out, by rw [← rowTo_skip _ _ _ V.out]; exact R7.out, hbk⟩
                  case measure => simp [intOf]
                | succ j =>
                  have hj : j < M.length := by omega
                  have hpj : (M.map (·.data.toList))[j]'(by simpa using hj) = M[j].data.toList := by simp
                  have V := Lib.hid (show (Sp.gpiece L[i].data.toList M[j].data.toList && lmRow L M i j) = lmRow L M (i + 1) (j + 1) by
                    unfold lmRow
                    rw [Sp.lm_row_succ _ _ i j (by simpa using hlt) (by simpa using hj), hpi, if_neg hc', hpj])
                  have h5 := hnow j (by omega)
                  have hy0 : wr.cell? ⟨gm, j, none⟩ = some (.string M[j]) := keep_cell (SM2.out j hj) hbk
                  obtain ⟨u, hu⟩ : ∃ u, lmRow L M i j = u := ⟨_, rfl⟩
                  obtain ⟨x, hx⟩ : ∃ x, Sp.gpiece L[i].data.toList M[j].data.toList = x := ⟨_, rfl⟩
                  have C := Lib.hid fun W (_ : Below wr.heap.size wr W) => rpm_calls L[i] M[j] W (by have := sL L[i] (List.getElem_mem hlt); omega) (by have := sM M[j] (List.getElem_mem hj); omega)
                  simp only [hx] at C
                  rw [hu] at h5 V
                  rw [hx] at V
                  clear hnow hnext hz hpi hpj hr5 hr7 hc hc' hu hx
                  have q1 : IntKind.i64.wrap (j : Int) = (j : Int) := IntWalk.i64_in _ (by omega)
                  have q2 : (j : Int) < (M.length : Int) + 1 := by omega
                  have q3 : (j : Int) < (M.length : Int) := by omega
                  have q4 : (i : Int) < (L.length : Int) := by omega
                  have key : ∀ W5 v, Below wr.heap.size wr W5 → v = lmRow L M (i + 1) (j + 1) → (∃ x : Nat, x ≤ M.length + 1 ∧ Value.int .i64 ((j : Int) + 1 + 1) = .int .i64 (x : Int) ∧ (W5.setCell ⟨g7, j + 1, none⟩ (.bool v)).ownsRow w2.heap.size 4 1 (.slice (some ⟨g5, 0, none⟩) (M.length + 1) (M.length + 1)) (M.length + 1) (rowV (lmRow L M i) (M.length + 1)) ∧ (W5.setCell ⟨g7, j + 1, none⟩ (.bool v)).ownsRow w2.heap.size 4 1 (.slice (some ⟨g7, 0, none⟩) (M.length + 1) (M.length + 1)) (M.length + 1) (rowTo (lmRow L M (i + 1)) (M.length + 1) x) ∧ Below w2.heap.size w2 (W5.setCell ⟨g7, j + 1, none⟩ (.bool v))) := fun W5 v hB hv =>
                    ⟨j + 1 + 1, by omega, by go_num, owned_far (owned_below R5.out hB) hne _, owned_set (owned_below R7.out hB) _ hv, (keep_below hbk hB).setCell hg7' _⟩
                  have KEY := Lib.hid key
                  clear key
                  cases u
                  · go_wp2_with fail
                    refine wp_region_det_tail (fun W => Below wr.heap.size wr W) 20 (by kernel_rfl) (by kernel_rfl) (Below.refl _ _).drew ?_
                    simp only [List.take_succ_cons, List.take_zero, List.drop_succ_cons, List.drop_zero]
                    repeat (first
                      | (refine det_step (fun K hK => ?_)
                         apply Exists.intro
                         refine ⟨Or.inl ⟨rfl, fun W hS => ?_⟩, ?_⟩
                         · have hz := hS
                           replace hz : Below wr.heap.size wr W := hz
                           have c5 := keep_cell h5 hz
                           have cx := keep_cell hx0 hz
                           have cy := keep_cell hy0 hz
                           go_simp
                           first
                           | exact rfl
                           | exact ⟨rfl, hz⟩
                           | ((with_reducible refine (C.out _ hz).mono ?_); rintro e w' ⟨rfl, hb1⟩; exact ⟨rfl, keep_below hz hb1⟩)
                         go_simp
                         refine hK _ ?_
                         clear hK K)
                      | (refine det_step (fun K hK => ?_); refine det_no' rfl ?_; go_simp; refine hK _ ?_; clear hK K))
                    refine det_nil ?_
                    intro W5 hS
                    replace hS : Below wr.heap.size wr W5 := hS
                    have hck5 := keep_cell hck hS
                    have hfr5 : W5.frozen? ⟨g7, j + 1, none⟩ = false := (owned_below R7.out hS).frozenAt (j + 1)
                    go_wp2_with fail
                    go_roundw
                    case rel => exact KEY.out _ _ hS (by rw [← V.out]; simp)
                    case measure => simp [intOf]; omega
                  · go_wp2_with fail
                    refine wp_region_det_tail (fun W => Below wr.heap.size wr W) 20 (by kernel_rfl) (by kernel_rfl) (Below.refl _ _).drew ?_
                    simp only [List.take_succ_cons, List.take_zero, List.drop_succ_cons, List.drop_zero]
                    repeat (first
                      | (refine det_step (fun K hK => ?_)
                         apply Exists.intro
                         refine ⟨Or.inl ⟨rfl, fun W hS => ?_⟩, ?_⟩
                         · have hz := hS
                           replace hz : Below wr.heap.size wr W := hz
                           have c5 := keep_cell h5 hz
                           have cx := keep_cell hx0 hz
                           have cy := keep_cell hy0 hz
                           go_simp
                           first
                           | exact rfl
                           | exact ⟨rfl, hz⟩
                           | ((with_reducible refine (C.out _ hz).mono ?_); rintro e w' ⟨rfl, hb1⟩; exact ⟨rfl, keep_below hz hb1⟩)
                         go_simp
                         refine hK _ ?_
                         clear hK K)
                      | (refine det_step (fun K hK => ?_); refine det_no' rfl ?_; go_simp; refine hK _ ?_; clear hK K))
                    refine det_nil ?_
                    intro W5 hS
                    replace hS : Below wr.heap.size wr W5 := hS
                    have hck5 := keep_cell hck hS
                    have hfr5 : W5.frozen? ⟨g7, j + 1, none⟩ = false := (owned_below R7.out hS).frozenAt (j + 1)
                    go_wp2_with fail
                    go_roundw
                    case rel => exact KEY.out _ _ hS (by rw [← V.out]; simp)
                    case measure => simp [intOf]; omega
            · obtain rfl : k = M.length + 1 := by omega
              rw [rowTo_full] at hr7
              go_wp2_with fail
              go_roundw
              case rel => exact ⟨i + 1, g7, by omega, by go_num, rfl, hr7, hbk⟩
              case measure => simp [intOf]; omega
        · obtain rfl : i = L.length := by omega
          have hcell : wr.cell? ⟨g5, M.length, none⟩ = some (.bool (Sp.lm (Sp.split p.data.toList) (Sp.parts s.data.toList))) := by
            rw [owned_get hrow M.length (by omega) (by rw [rowV_len]; omega), rowV_get _ _ _ (by omega), ← HL.out, ← HM.out]
            unfold lmRow
            rw [List.take_of_length_le (by simp), List.take_of_length_le (by simp)]
          clear hrow
          go_wp2_with fail
          go_ret
          exact ⟨ret_bool F.out.symm, keep_below hbw hbr⟩
  · have F := Lib.hid (show Sp.gmatch p.data.toList s.data.toList = false by unfold Sp.gmatch; simp [hc])
    have e0 : (Sp.gcheck p.data.toList != 0) = true := by simpa using hc
    clear hc
    go_enter Tryz.func41, Tryz.ntmps41
    go_wp2_with fail
    refine (pieces_calls p _ (by omega)).mono ?_
    rintro e w0 ⟨hb0, ⟨h0, _⟩ | ⟨gl, cl, L, hl0, _, rfl, hL, _, _⟩⟩
    · exact absurd h0 (Sp.split_ne _)
    clear hL
    go_wp2_with fail
    refine (rparts_calls s _ hs).mono ?_
    rintro e w1 ⟨hb, ⟨_, rfl⟩ | ⟨g, cap, M, hl, _, rfl, hM, _⟩⟩
    all_goals
      go_wp2_with fail
      refine (rgcheck_calls p _ (by omega)).mono ?_
      rintro e w2 ⟨rfl, hb2⟩
      go_wp2
      go_ret
      exact ⟨ret_bool F.out.symm, keep_below (keep_below hb0 hb) hb2⟩
end Go.Proofs.YteiblfcehlibpaaGreatDoor
