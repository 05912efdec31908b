/- Walks: a number that is read, and the reference's. -/
import Derived.Test.YtbjdgiocehoaiaaDoorSpec01
import Derived.Test.YtbjdgiocehoaiaaDoorGlobA
namespace Go.Proofs.YtbjdgiocehoaiaaDoor
open Go.RowKit
theorem right_calls (n : Int) (w : World) : Calls Tryd.prog 83 #[.int .i64 n] w fun e w' => e = .returned (.bool (decide (0 ≤ n ∧ n ≤ 1073741824))) ∧ w = w' := by
  by_cases h0 : 0 ≤ n
  · have e1 : decide (0 ≤ n) = true := decide_eq_true h0
    have F := Lib.hid (show decide (0 ≤ n ∧ n ≤ 1073741824) = decide (n ≤ 1073741824) by rw [decide_eq_decide]; omega)
    clear h0
    go_enter Tryd.func83, Tryd.ntmps83
    go_wp2_with fail
    go_ret
    exact ⟨ret_bool F.out.symm, rfl⟩
  · have e1 : decide (0 ≤ n) = false := decide_eq_false h0
    have F := Lib.hid (show decide (0 ≤ n ∧ n ≤ 1073741824) = false by rw [decide_eq_false_iff_not]; omega)
    clear h0
    go_enter Tryd.func83, Tryd.ntmps83
    go_wp2_with fail
    go_ret
    exact ⟨ret_bool F.out.symm, rfl⟩
/-- What end hands back. -/
def endV : Option Nat → Int
  | none => -1
  | some k => k
theorem get_of (s : ByteArray) (k : Nat) (h : k < s.size) : s.data.toList[k]? = some s[k] := by
  rw [List.getElem?_eq_getElem (by simpa using h)]; rfl
theorem lt128 (b : UInt8) : decide ((b.toNat : Int) < 128) = decide (b.toNat < 128) := by rw [decide_eq_decide]; omega
set_option maxRecDepth 100000 in
set_option maxHeartbeats 1000000 in
theorem end_calls (s : ByteArray) (w : World) (hs : s.size < 4294967200) :
    Calls Tryd.prog 110 #[.string s] w fun e w' => e = .returned (.int .i64 (endV (Sp.cend s.data.toList 5 0))) ∧ w = w' := by
  obtain ⟨m, hm, hm1⟩ : ∃ m : Nat, (m : Int) = min (s.size : Int) 5 ∧ m ≤ 5 ∧ m ≤ s.size ∧ (m = 5 ∨ m = s.size) := ⟨min s.size 5, by omega, by omega⟩
  have hm' : (if (s.size : Int) < 5 then (s.size : Int) else 5) = (m : Int) := by split <;> omega
  obtain ⟨r, hr⟩ : ∃ r, r = Sp.cend s.data.toList 5 0 := ⟨_, rfl⟩
  rw [← hr]
  have R := Lib.hid hr
  clear hr
  go_enter Tryd.func110, Tryd.ntmps110
  go_wp2_with fail
  go_loopw [3, 7] (fun _ v7 wr => ∃ k : Nat, k ≤ m ∧ v7 = .int .i64 k ∧ Sp.cend s.data.toList (5 - k) k = r ∧ w = wr) (fun _ v7 _ => 5 - (intOf v7).toNat)
  case atStart => exact ⟨0, Nat.zero_le _, rfl, R.out.symm, rfl⟩
  case round =>
    obtain ⟨k, hk, rfl, hc, rfl⟩ := hrel
    by_cases hlt : k < m
    · have hks : k < s.size := by omega
      have q : (k : Int) < (m : Int) := by omega
      rw [show 5 - k = (5 - (k + 1)) + 1 by omega, Sp.cend, get_of s k hks] at hc
      simp only [] at hc
      have b1 := lt128 s[k]
      by_cases hb : (s[k]).toNat < 128
      · rw [if_pos hb] at hc
        rw [decide_eq_true hb] at b1
        have F := Lib.hid hc
        clear hc hb hm1 hm
        go_wp2_with fail
        go_ret
        exact ⟨by rw [← F.out]; rfl, rfl⟩
      · rw [if_neg hb] at hc
        rw [decide_eq_false hb] at b1
        have F := Lib.hid hc
        clear hc hb
        go_wp2_with fail
        go_roundw
        case rel => exact ⟨k + 1, by omega, by go_num, F.out, trivial⟩
        case measure => simp [intOf]; omega
    · obtain rfl : k = m := by omega
      have hc' : r = none := by
        rw [← hc]
        rcases hm1.2.2 with h | h
        · rw [h]; rfl
        · cases h5 : 5 - k with
          | zero => rfl
          | succ f =>
            unfold Sp.cend
            rw [List.getElem?_eq_none (by simp; omega)]
      have F := Lib.hid hc'
      clear hc hc' hm1 hm
      go_wp2_with fail
      go_ret
      exact ⟨by rw [F.out]; rfl, rfl⟩
theorem w64 (x : Int) (h0 : -9223372036854775808 ≤ x) (h1 : x ≤ 9223372036854775807) : wrap64 x = x := by unfold wrap64; omega
theorem w64b (b : UInt8) : wrap64 (b.toNat : Int) = (b.toNat : Int) := w64 _ (by omega) (by have := b.toNat_lt; omega)
theorem tmodb (b : UInt8) : (b.toNat : Int).tmod 128 = (b.toNat : Int) % 128 := Int.tmod_eq_emod_of_nonneg (Int.natCast_nonneg _)
/-- What Take hands back. -/
def takeV (r : Nat × Nat × Int) : Value := .tuple #[.int .i64 r.1, .int .i64 r.2.1, .int .i64 r.2.2]
theorem num_drop (s : ByteArray) (m k : Nat) (h : k < m) (hm : m ≤ s.size) : Sp.num ((s.data.toList.take m).drop k) = (s[k]'(by omega)).toNat % 128 + 128 * Sp.num ((s.data.toList.take m).drop (k + 1)) := by
  rw [List.drop_eq_getElem_cons (by simp; omega), Sp.num]
  congr 2
  simp
  rfl
theorem num_drop_lt (s : ByteArray) (m k : Nat) (hk : m ≤ k + 4) : Sp.num ((s.data.toList.take m).drop k) < 4294967296 := by
  have h := Sp.num_lt ((s.data.toList.take m).drop k)
  have h2 : ((s.data.toList.take m).drop k).length ≤ 4 := by simp; omega
  have h3 : 128 ^ ((s.data.toList.take m).drop k).length ≤ 128 ^ 4 := Nat.pow_le_pow_right (by decide) h2
  omega
set_option maxRecDepth 100000 in
set_option maxHeartbeats 2000000 in
theorem ctake_calls (s : ByteArray) (w : World) (hs : s.size < 4294967200) :
    Calls Tryd.prog 102 #[.string s] w fun e w' => e = .returned (takeV (Sp.take s.data.toList)) ∧ w = w' := by
  have C := Lib.hid (end_calls s w hs)
  have hl : s.data.toList.length = s.size := by simp
  cases he : Sp.cend s.data.toList 5 0 with
  | none =>
    rw [he] at C
    by_cases h5 : s.size < 5
    · have F := Lib.hid (show Sp.take s.data.toList = (0, 0, 5) by unfold Sp.take; rw [he]; simp only []; rw [if_pos (by omega)])
      have e1 : decide ((s.size : Int) < 5) = true := by simp; omega
      clear he h5 hl
      simp only [endV] at C
      go_enter Tryd.func102, Tryd.ntmps102
      go_wp2_with (go_at_call 110; refine C.out.mono ?_; rintro e w1 ⟨rfl, rfl⟩)
      go_ret3
      exact ⟨by rw [F.out]; rfl, rfl⟩
    · have F := Lib.hid (show Sp.take s.data.toList = (0, 0, 2) by unfold Sp.take; rw [he]; simp only []; rw [if_neg (by omega)])
      have e1 : decide ((s.size : Int) < 5) = false := by simp; omega
      clear he h5 hl
      simp only [endV] at C
      go_enter Tryd.func102, Tryd.ntmps102
      go_wp2_with (go_at_call 110; refine C.out.mono ?_; rintro e w1 ⟨rfl, rfl⟩)
      go_ret3
      exact ⟨by rw [F.out]; rfl, rfl⟩
  | some i =>
    rw [he] at C
    simp only [endV] at C
    have hi := Sp.cend_some he
    have hi2 : i < s.size := by omega
    have hi3 : i ≤ 4 := by omega
    have hg := get_of s i hi2
    have i0 : decide ((i : Int) < 0) = false := by simp
    by_cases hz : (s[i] = 0 ∧ 0 < i)
    · have F := Lib.hid (show Sp.take s.data.toList = (0, 0, 7) by unfold Sp.take; rw [he]; simp only []; rw [if_pos (by rw [hg, hz.1]; exact ⟨rfl, hz.2⟩)])
      have b1 : (((s[i]).toNat : Int) == 0) = true := by rw [hz.1]; rfl
      have b2 : 0 < i := hz.2
      clear he hi hg hl hz
      go_enter Tryd.func102, Tryd.ntmps102
      go_wp2_with (go_at_call 110; refine C.out.mono ?_; rintro e w1 ⟨rfl, rfl⟩)
      go_ret3
      exact ⟨by rw [F.out]; rfl, rfl⟩
    · have hz' : ¬ (s.data.toList[i]? = some 0 ∧ 0 < i) := by rw [hg]; intro h; exact hz ⟨by injection h.1, h.2⟩
      have hN : Sp.num ((s.data.toList.take (i + 1)).drop 0) = Sp.num (s.data.toList.take (i + 1)) := by rw [List.drop_zero]
      have T : Sp.take s.data.toList = if 1073741824 < Sp.num (s.data.toList.take (i + 1)) then (0, 0, 2) else (Sp.num (s.data.toList.take (i + 1)), i + 1, 0) := by
        unfold Sp.take; rw [he]; simp only []; rw [if_neg hz']
      have hN2 : Sp.num (s.data.toList.take (i + 1)) < 34359738368 := by
        have h := Sp.num_lt (s.data.toList.take (i + 1))
        have h2 : (s.data.toList.take (i + 1)).length ≤ 5 := by simp; omega
        have h3 : 128 ^ (s.data.toList.take (i + 1)).length ≤ 128 ^ 5 := Nat.pow_le_pow_right (by decide) h2
        omega
      have TT := Lib.hid T
      have NN := Lib.hid hN
      have E0 : Sp.num ((s.data.toList.take (i + 1)).drop (i + 1)) = 0 := by rw [List.drop_eq_nil_of_le (by simp; omega)]; rfl
      have EE := Lib.hid E0
      have ST := Lib.hid fun k (hk : k ≤ i) => num_drop s (i + 1) k (by omega) (by omega)
      have SL := Lib.hid fun k => num_drop_lt s (i + 1) k
      have b : (∃ v, (((s[i]).toNat : Int) == 0) = v ∧ (v = true → ¬ 0 < i)) := by
        refine ⟨_, rfl, fun h => ?_⟩
        intro h0
        exact hz ⟨UInt8.toNat_inj.1 (by have := beq_iff_eq.1 h; simp; omega), by omega⟩
      obtain ⟨v, b1, b2⟩ := b
      clear he hg hz hz' T hN E0
      go_enter Tryd.func102, Tryd.ntmps102
      cases v
      all_goals
        first | (have b3 := b2 rfl) | skip
        clear b2
        go_wp2_with (go_at_call 110; refine C.out.mono ?_; rintro e w1 ⟨rfl, rfl⟩)
        go_loopw [6, 7] (fun v6 v7 wr => ∃ k : Nat, k ≤ i + 1 ∧ v7 = .int .i64 ((k : Int) - 1) ∧ v6 = .int .i64 ((Sp.num ((s.data.toList.take (i + 1)).drop k) : Nat) : Int) ∧ w = wr) (fun _ v7 _ => (intOf v7 + 1).toNat)
        case atStart => exact ⟨i + 1, Nat.le_refl _, by go_num, by rw [EE.out]; rfl, rfl⟩
        case round =>
          obtain ⟨k, hk, rfl, rfl, rfl⟩ := hrel
          cases k with
          | zero =>
            have R := Lib.hid (right_calls ((Sp.num (s.data.toList.take (i + 1)) : Nat) : Int) w)
            rw [NN.out]
            obtain ⟨x, hx⟩ : ∃ x, x = Sp.num (s.data.toList.take (i + 1)) := ⟨_, rfl⟩
            rw [← hx] at R hN2 TT
            rw [← hx]
            clear hx
            have z1 : decide ((0 : Int) ≤ ((0 : Nat) : Int) - 1) = false := by decide
            by_cases hbig : 1073741824 < x
            · have F := Lib.hid (show Sp.take s.data.toList = (0, 0, 2) by rw [TT.out, if_pos hbig])
              rw [show decide ((0 : Int) ≤ (x : Int) ∧ (x : Int) ≤ 1073741824) = false by rw [decide_eq_false_iff_not]; omega] at R
              clear hbig
              go_wp2_with (go_at_call 83; refine R.out.mono ?_; rintro e w1 ⟨rfl, rfl⟩)
              go_ret3
              exact ⟨by rw [F.out]; rfl, rfl⟩
            · have F := Lib.hid (show Sp.take s.data.toList = (x, i + 1, 0) by rw [TT.out, if_neg hbig])
              rw [show decide ((0 : Int) ≤ (x : Int) ∧ (x : Int) ≤ 1073741824) = true by rw [decide_eq_true_iff]; omega] at R
              clear hbig
              go_wp2_with (go_at_call 83; refine R.out.mono ?_; rintro e w1 ⟨rfl, rfl⟩)
              go_ret3
              exact ⟨by rw [F.out]; rfl, rfl⟩
          | succ k =>
            have hks : k < s.size := by omega
            have hlt := SL.out (k + 1) (by omega)
            have hst := Lib.hid (ST.out k (by omega))
            obtain ⟨x, hx⟩ : ∃ x, x = Sp.num ((s.data.toList.take (i + 1)).drop (k + 1)) := ⟨_, rfl⟩
            rw [← hx] at hlt hst
            rw [← hx]
            clear hx
            have o1 := or128 x ((s[k]).toNat % 128) hlt (Nat.mod_lt _ (by decide))
            have o2 : (((s[k]).toNat % 128 : Nat) : Int) = ((s[k]).toNat : Int) % 128 := by omega
            rw [o2] at o1
            have z1 : decide ((0 : Int) ≤ ((k + 1 : Nat) : Int) - 1) = true := by simp
            clear o2
            go_wp2_with fail
            go_roundw
            case rel => exact ⟨k, by omega, by go_num, by rw [hst.out, Nat.add_comm]; simp, trivial⟩
            case measure => simp [intOf]

theorem num_take (s : ByteArray) (k : Nat) (h : k < s.size) : Sp.num (s.data.toList.take (k + 1)) = Sp.num (s.data.toList.take k) + 128 ^ k * ((s[k]).toNat % 128) := by
  have hk : (s.data.toList.take k).length = k := by rw [List.length_take]; simp; omega
  rw [List.take_add_one, get_of s k h, Option.toList_some, Sp.num_snoc, hk]
set_option maxRecDepth 100000 in
set_option maxHeartbeats 2000000 in
theorem rtake_calls (s : ByteArray) (w : World) (hs : s.size < 4294967200) :
    Calls Tryd.prog 78 #[.string s] w fun e w' => e = .returned (takeV (Sp.take s.data.toList)) ∧ w = w' := by
  have hl : s.data.toList.length = s.size := by simp
  have T : ∀ r, r = Sp.cend s.data.toList 5 0 → Sp.take s.data.toList = match r with
    | none => if s.size < 5 then (0, 0, 5) else (0, 0, 2)
    | some i => if s.data.toList[i]? = some 0 ∧ 0 < i then (0, 0, 7) else if 1073741824 < Sp.num (s.data.toList.take (i + 1)) then (0, 0, 2) else (Sp.num (s.data.toList.take (i + 1)), i + 1, 0) := by
    rintro r rfl
    unfold Sp.take; rw [hl]; cases Sp.cend s.data.toList 5 0 <;> rfl
  obtain ⟨r, hr⟩ : ∃ r, r = Sp.cend s.data.toList 5 0 := ⟨_, rfl⟩
  replace T := T r hr
  have TT := Lib.hid T
  have R := Lib.hid hr
  clear T hr
  go_enter Tryd.func78, Tryd.ntmps78
  go_wp2_with fail
  go_loopw [5, 6, 7, 8] (fun v5 v6 v7 _ wr => ∃ k : Nat, k ≤ 5 ∧ k ≤ s.size ∧ v7 = .int .i64 k ∧ v5 = .int .i64 ((Sp.num (s.data.toList.take k) : Nat) : Int) ∧ v6 = .int .i64 ((128 ^ k : Nat) : Int) ∧ Sp.cend s.data.toList (5 - k) k = r ∧ w = wr) (fun _ _ v7 _ _ => 5 - (intOf v7).toNat)
  case atStart => exact ⟨0, Nat.zero_le _, Nat.zero_le _, rfl, rfl, rfl, R.out.symm, rfl⟩
  case round =>
    obtain ⟨k, hk, hks, rfl, rfl, rfl, hc, rfl⟩ := hrel
    by_cases hk5 : k = 5
    · subst hk5
      have F := Lib.hid (show Sp.take s.data.toList = (0, 0, 2) by rw [TT.out, ← hc]; simp only [Nat.sub_self, Sp.cend]; rw [if_neg (by omega)])
      clear hc hl
      go_wp2_with fail
      go_ret3
      exact ⟨by rw [F.out]; rfl, rfl⟩
    · have q1 : (k : Int) < 5 := by omega
      by_cases hke : k = s.size
      · have F := Lib.hid (show Sp.take s.data.toList = (0, 0, 5) by
          rw [TT.out, ← hc, show 5 - k = (5 - (k + 1)) + 1 by omega, Sp.cend, List.getElem?_eq_none (by omega)]; simp only []; rw [if_pos (by omega)])
        subst hke
        clear hc hl
        have b0 : ((s.size : Int) == (s.size : Int)) = true := by simp
        go_wp2_with fail
        go_ret3
        exact ⟨by rw [F.out]; rfl, rfl⟩
      · have hlt : k < s.size := by omega
        have b0 : ((k : Int) == (s.size : Int)) = false := by rw [beq_eq_false_iff_ne]; omega
        have hgk := get_of s k hlt
        rw [show 5 - k = (5 - (k + 1)) + 1 by omega, Sp.cend, hgk] at hc
        simp only [] at hc
        have hn := num_take s k hlt
        have hnl : Sp.num (s.data.toList.take k) < 128 ^ 4 := by
          have h := Sp.num_lt (s.data.toList.take k)
          have h2 : (s.data.toList.take k).length ≤ 4 := by simp; omega
          exact Nat.lt_of_lt_of_le h (Nat.pow_le_pow_right (by decide) h2)
        have hu : 128 ^ k ≤ 128 ^ 4 := Nat.pow_le_pow_right (by decide) (by omega)
        have hu2 : (128 : Nat) ^ (k + 1) = 128 ^ k * 128 := Nat.pow_succ _ _
        have hm : 128 ^ k * ((s[k]).toNat % 128) ≤ 128 ^ 4 * 128 := Nat.mul_le_mul hu (by omega)
        obtain ⟨X, hX⟩ : ∃ X : Int, X = ((Sp.num (s.data.toList.take k) : Nat) : Int) := ⟨_, rfl⟩
        obtain ⟨U, hU⟩ : ∃ U : Int, U = ((128 ^ k : Nat) : Int) := ⟨_, rfl⟩
        obtain ⟨Y, hY⟩ : ∃ Y : Int, Y = ((s[k]).toNat : Int) % 128 := ⟨_, rfl⟩
        obtain ⟨M, hM⟩ : ∃ M : Int, M = ((128 ^ k * ((s[k]).toNat % 128) : Nat) : Int) := ⟨_, rfl⟩
        obtain ⟨Z, hZ⟩ : ∃ Z : Int, Z = ((Sp.num (s.data.toList.take (k + 1)) : Nat) : Int) := ⟨_, rfl⟩
        obtain ⟨V, hV⟩ : ∃ V : Int, V = ((128 ^ (k + 1) : Nat) : Int) := ⟨_, rfl⟩
        have m1 : Y * U = M := by rw [hY, hU, hM, Int.mul_comm]; simp
        have m2 : X + M = Z := by rw [hX, hM, hZ, hn]; simp
        have m3 : U * 128 = V := by rw [hU, hV, hu2]; simp
        have i1 : IntKind.i64.wrap M = M := IntWalk.i64_in _ (by omega)
        have i2 : IntKind.i64.wrap Z = Z := IntWalk.i64_in _ (by omega)
        have i3 : IntKind.i64.wrap V = V := IntWalk.i64_in _ (by omega)
        have j1 : wrap64 M = M := w64 _ (by omega) (by omega)
        have j2 : wrap64 Z = Z := w64 _ (by omega) (by omega)
        have j3 : wrap64 V = V := w64 _ (by omega) (by omega)
        have j4 : wrap64 ((s[k]).toNat : Int) = ((s[k]).toNat : Int) := w64b _
        have j5 : ((s[k]).toNat : Int).tmod 128 = Y := by rw [hY]; exact tmodb _
        have ZZ := Lib.hid hZ
        have VV := Lib.hid hV
        have y1 := hY.symm
        rw [← hX, ← hU]
        have ZB := Lib.hid (show 0 ≤ Z by omega)
        have DB : ∀ b, b = decide (1073741824 < Sp.num (s.data.toList.take (k + 1))) → decide ((1073741824 : Int) < Z) = b := by
          rintro _ rfl; rw [decide_eq_decide]; omega
        clear hn hu2 hX hU hY hM hZ hV hnl hu hm
        by_cases hb : (s[k]).toNat < 128
        · rw [if_pos hb] at hc
          have b1 : decide ((128 : Int) ≤ ((s[k]).toNat : Int)) = false := by rw [decide_eq_false_iff_not]; omega
          by_cases hz : s[k] = 0 ∧ 0 < k
          · have F := Lib.hid (show Sp.take s.data.toList = (0, 0, 7) by rw [TT.out, ← hc]; simp only []; rw [if_pos (by rw [hgk, hz.1]; exact ⟨rfl, hz.2⟩)])
            have b2 : (((s[k]).toNat : Int) == 0) = true := by rw [hz.1]; rfl
            have b3 : 0 < k := hz.2
            clear DB hc hl hgk hb hz
            go_wp2_with fail
            go_ret3
            exact ⟨by rw [F.out]; rfl, rfl⟩
          · have hz' : ¬ (s.data.toList[k]? = some 0 ∧ 0 < k) := by rw [hgk]; intro h; exact hz ⟨by injection h.1, h.2⟩
            have b : (∃ v, (((s[k]).toNat : Int) == 0) = v ∧ (v = true → ¬ 0 < k)) := by
              refine ⟨_, rfl, fun h => ?_⟩
              intro h0
              exact hz ⟨UInt8.toNat_inj.1 (by have := beq_iff_eq.1 h; simp; omega), by omega⟩
            obtain ⟨v, b2, b3⟩ := b
            by_cases hbig : 1073741824 < Sp.num (s.data.toList.take (k + 1))
            · have F := Lib.hid (show Sp.take s.data.toList = (0, 0, 2) by rw [TT.out, ← hc]; simp only []; rw [if_neg hz', if_pos hbig])
              have b5 := DB true (by rw [decide_eq_true hbig])
              clear DB hbig hc hl hgk hb hz hz'
              cases v
              all_goals
                first | (have b4 := b3 rfl) | skip
                clear b3
                go_wp2_with fail
                go_ret3
                exact ⟨by rw [F.out]; rfl, rfl⟩
            · have F := Lib.hid (show takeV (Sp.take s.data.toList) = .tuple #[.int .i64 Z, .int .i64 ((k : Int) + 1), .int .i64 0] by rw [TT.out, ← hc]; simp only []; rw [if_neg hz', if_neg hbig, ZZ.out]; rfl)
              have b5 := DB false (by rw [decide_eq_false hbig])
              clear DB hbig hc hl hgk hb hz hz'
              cases v
              all_goals
                first | (have b4 := b3 rfl) | skip
                clear b3
                go_wp2_with fail
                go_ret3
                exact ⟨by rw [F.out]; rfl, rfl⟩
        · rw [if_neg hb] at hc
          have b1 : decide ((128 : Int) ≤ ((s[k]).toNat : Int)) = true := by rw [decide_eq_true_iff]; omega
          have FC := Lib.hid hc
          clear DB hc hl hgk hb
          go_wp2_with fail
          go_roundw
          case rel => exact ⟨k + 1, by omega, by omega, by go_num, by rw [ZZ.out], by rw [VV.out], FC.out, trivial⟩
          case measure => simp [intOf]; omega
end Go.Proofs.YtbjdgiocehoaiaaDoor
