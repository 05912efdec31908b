/- Walks: a piece over a name. -/
import Derived.Test.YtbjdgiocehoaiaaDoorGlobA
namespace Go.Proofs.YtbjdgiocehoaiaaDoor
open Go.RowKit

/-- What the variable of the closure holds. -/
abbrev pmFn (b : Nat) : Value := .func (.func 31) #[] #[.pointer (some ⟨b, 0, none⟩)]

theorem pm_nil_right (c : UInt8) (p : Sp.Bs) : Sp.pm (c :: p) [] = if c = 42 then Sp.pm p [] else false := by rw [Sp.pm]; rfl
theorem pm_cons (c d : UInt8) (p s : Sp.Bs) : Sp.pm (c :: p) (d :: s) = if c = 42 then Sp.pm p (d :: s) || Sp.pm (c :: p) s else (decide (c = 63) || decide (c = d)) && Sp.pm p s := by
  simp only [Sp.pm, Sp.star]
  split <;> rfl

set_option maxHeartbeats 1000000 in
theorem pm_calls (b : Nat) : ∀ (n : Nat) (p s : ByteArray) (w : World), p.size + s.size ≤ n → n ≤ 1000 → w.cell? ⟨b, 0, none⟩ = some (pmFn b) →
    Calls Tryd.prog 31 #[.string p, .string s, .pointer (some ⟨b, 0, none⟩)] w fun e w' => e = .returned (.bool (Sp.pm p.data.toList s.data.toList)) ∧ ∃ m, w' = w.drewN m := by
  intro n
  induction n with
  | zero =>
    intro p s w h hn hc
    have hp := Lib.hid (data_nil p (by omega))
    have hs := Lib.hid (data_nil s (by omega))
    have hp0 : p.toList = [] := by rw [toList_data, hp.out]
    have hs0 : s.toList = [] := by rw [toList_data, hs.out]
    go_enter Tryd.func31, Tryd.ntmps31
    go_wp2
    go_ret
    exact ⟨ret_bool (by rw [hp.out, hs.out, Sp.pm]; rfl), 0, rfl⟩
  | succ n ih =>
    intro p s w h hn hc
    have IH := Lib.hid ih
    clear ih
    by_cases hp : p.size = 0
    · have hp1 := Lib.hid (data_nil p hp)
      have hp0 : p.toList = [] := by rw [toList_data, hp1.out]
      clear hp
      go_enter Tryd.func31, Tryd.ntmps31
      go_wp2
      go_ret
      exact ⟨ret_bool (by rw [hp1.out, Sp.pm, toList_data]), 0, rfl⟩
    · have h1 := Lib.hid (data_cons p (by omega))
      have hp0 : 0 < p.size := by omega
      have hpn : p.toList.isEmpty = false := by rw [toList_data, h1.out]; rfl
      by_cases hst : p[0] = 42
      · have T := Lib.hid hst
        have hb : ((p[0]).toNat : Int) = 42 := by rw [hst]; rfl
        have hb1 : (((p[0]).toNat : Int) == 42) = true := by rw [hb]; rfl
        clear hb hst
        have hs1 : (p.extract 1 p.size).size + s.size ≤ n := by simp; omega
        obtain ⟨v1, hv⟩ : ∃ v, Sp.pm (p.data.toList.drop 1) s.data.toList = v := ⟨_, rfl⟩
        have C : ∀ nq, Calls Tryd.prog 31 #[.string (p.extract 1 p.size), .string s, .pointer (some ⟨b, 0, none⟩)] (w.drewN nq) fun e w' => e = .returned (.bool v1) ∧ ∃ m, w' = (w.drewN nq).drewN m := fun nq => by
          have := IH.out (p.extract 1 p.size) s (w.drewN nq) hs1 (by omega) hc
          rw [drop_one, hv] at this; exact this
        clear hs1
        have CC := Lib.hid C
        have HV := Lib.hid hv
        clear C hv
        by_cases hs : s.size = 0
        · have hs2 := Lib.hid (data_nil s hs)
          have hsn : s.toList = [] := by rw [toList_data, hs2.out]
          clear hs
          have fin := Lib.hid (show v1 = Sp.pm p.data.toList s.data.toList by rw [← HV.out, hs2.out, h1.out, pm_nil_right, if_pos T.out, List.drop_succ_cons, List.drop_zero])
          cases v1
          all_goals
            go_enter Tryd.func31, Tryd.ntmps31
            go_wp2_with fail
            go_quiet ((go_at_call 31; exact Calls.quiet_of (CC.out _)))
            go_wp2
            go_ret
            exact ⟨ret_bool fin.out, _, rfl⟩
        · have h2 := Lib.hid (data_cons s (by omega))
          have hsn : s.toList.isEmpty = false := by rw [toList_data, h2.out]; rfl
          have hs0 : 0 < s.size := by omega
          have hs1 : p.size + (s.extract 1 s.size).size ≤ n := by simp; omega
          obtain ⟨v2, hv2⟩ : ∃ v, Sp.pm p.data.toList (s.data.toList.drop 1) = v := ⟨_, rfl⟩
          have C2 : ∀ nq, Calls Tryd.prog 31 #[.string p, .string (s.extract 1 s.size), .pointer (some ⟨b, 0, none⟩)] (w.drewN nq) fun e w' => e = .returned (.bool v2) ∧ ∃ m, w' = (w.drewN nq).drewN m := fun nq => by
            have := IH.out p (s.extract 1 s.size) (w.drewN nq) hs1 (by omega) hc
            rw [drop_one, hv2] at this; exact this
          clear hs1
          have CC2 := Lib.hid C2
          have HV2 := Lib.hid hv2
          clear C2 hv2
          have fin := Lib.hid (show (v1 || v2) = Sp.pm p.data.toList s.data.toList by rw [← HV.out, ← HV2.out, h2.out, h1.out, pm_cons, if_pos T.out, List.drop_succ_cons, List.drop_zero, List.drop_succ_cons, List.drop_zero])
          cases v1
          · go_enter Tryd.func31, Tryd.ntmps31
            go_wp2_with fail
            go_quiet ((go_at_call 31; first | (with_reducible exact Calls.quiet_of (CC.out _)) | (with_reducible exact Calls.quiet_of (CC2.out _))))
            go_wp2
            go_ret
            exact ⟨ret_bool fin.out, _, rfl⟩
          · go_enter Tryd.func31, Tryd.ntmps31
            go_wp2_with fail
            go_quiet ((go_at_call 31; exact Calls.quiet_of (CC.out _)))
            go_wp2
            go_ret
            exact ⟨ret_bool (by rw [← fin.out]; rfl), _, rfl⟩
      · have hb1 : (((p[0]).toNat : Int) == 42) = false := by
          rw [beq_eq_false_iff_ne]; intro e; exact hst (UInt8.toNat_inj.1 (by simpa using (by omega : (p[0]).toNat = 42)))
        by_cases hs : s.size = 0
        · have hs2 := Lib.hid (data_nil s hs)
          have hsn : s.toList = [] := by rw [toList_data, hs2.out]
          have HST := Lib.hid hst
          clear hs hst
          go_enter Tryd.func31, Tryd.ntmps31
          go_wp2_with fail
          go_quiet (fail)
          go_wp2
          go_ret
          exact ⟨ret_bool (by rw [hs2.out, h1.out, pm_nil_right, if_neg HST.out]), _, rfl⟩
        · have h2 := Lib.hid (data_cons s (by omega))
          have hsn : s.toList.isEmpty = false := by rw [toList_data, h2.out]; rfl
          have hs0 : 0 < s.size := by omega
          have hs1 : (p.extract 1 p.size).size + (s.extract 1 s.size).size ≤ n := by simp; omega
          obtain ⟨v, hv⟩ : ∃ v, Sp.pm (p.data.toList.drop 1) (s.data.toList.drop 1) = v := ⟨_, rfl⟩
          have C : ∀ nq, Calls Tryd.prog 31 #[.string (p.extract 1 p.size), .string (s.extract 1 s.size), .pointer (some ⟨b, 0, none⟩)] (w.drewN nq) fun e w' => e = .returned (.bool v) ∧ ∃ m, w' = (w.drewN nq).drewN m := fun nq => by
            have := IH.out (p.extract 1 p.size) (s.extract 1 s.size) (w.drewN nq) hs1 (by omega) hc
            rw [drop_one, drop_one, hv] at this; exact this
          have fin := Lib.hid (show ((decide (p[0] = 63) || decide (p[0] = s[0])) && v) = Sp.pm p.data.toList s.data.toList by rw [← hv, h2, h1, pm_cons, if_neg hst, List.drop_succ_cons, List.drop_zero, List.drop_succ_cons, List.drop_zero])
          have CC := Lib.hid C
          clear C hv hs1
          by_cases hq : p[0] = 63
          · have hb2 : (((p[0]).toNat : Int) == 63) = true := by rw [hq]; rfl
            have HQ := Lib.hid hq
            clear hq hst
            go_enter Tryd.func31, Tryd.ntmps31
            go_wp2_with fail
            go_quiet ((go_at_call 31; with_reducible exact Calls.quiet_of (CC.out _)))
            go_wp2
            go_ret
            exact ⟨ret_bool (by rw [← fin.out, HQ.out]; simp), _, rfl⟩
          · have hb2 : (((p[0]).toNat : Int) == 63) = false := by
              rw [beq_eq_false_iff_ne]; intro e; exact hq (UInt8.toNat_inj.1 (by simpa using (by omega : (p[0]).toNat = 63)))
            by_cases he : p[0] = s[0]
            · have hb3 : (((p[0]).toNat : Int) == ((s[0]).toNat : Int)) = true := by rw [he]; simp
              have HE := Lib.hid he
              have HQ := Lib.hid hq
              clear hq hst he
              go_enter Tryd.func31, Tryd.ntmps31
              go_wp2_with fail
              go_quiet ((go_at_call 31; with_reducible exact Calls.quiet_of (CC.out _)))
              go_wp2
              go_ret
              exact ⟨ret_bool (by rw [← fin.out, HE.out]; simp), _, rfl⟩
            · have hb3 : (((p[0]).toNat : Int) == ((s[0]).toNat : Int)) = false := by
                rw [beq_eq_false_iff_ne]; intro e; exact he (UInt8.toNat_inj.1 (by omega))
              have HE := Lib.hid he
              have HQ := Lib.hid hq
              clear hq hst he
              go_enter Tryd.func31, Tryd.ntmps31
              go_wp2_with fail
              go_quiet (fail)
              go_wp2
              go_ret
              exact ⟨ret_bool (by rw [← fin.out]; simp [HE.out, HQ.out]), _, rfl⟩
end Go.Proofs.YtbjdgiocehoaiaaDoor
