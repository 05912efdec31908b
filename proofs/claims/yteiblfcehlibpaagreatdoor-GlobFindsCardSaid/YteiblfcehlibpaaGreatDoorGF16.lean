/- Walks: a piece over a name. Walks: patterns are checked. -/
import Derived.Test.YteiblfcehlibpaaGreatDoorGF07
namespace Go.Proofs.YteiblfcehlibpaaGreatDoor
open Go.RowKit

/-- What the variable of the closure holds. -/
abbrev pmFn (b : Nat) : Value := .func (.func 147) #[] #[.pointer (some ⟨b, 0, none⟩)]

theorem pm_nil_right (c : UInt8) (p : Sp.Bs) : Sp.pm (c :: p) [] = if c = 42 then Sp.pm p [] else false := by rw [Sp.pm]; rfl
theorem pm_cons (c d : UInt8) (p s : Sp.Bs) : Sp.pm (c :: p) (d :: s) = if c = 42 then Sp.pm p (d :: s) || Sp.pm (c :: p) s else (decide (c = 63) || decide (c = d)) && Sp.pm p s := by
  simp only [Sp.pm, Sp.star]
  split <;> rfl

set_option maxHeartbeats 1000000 in
theorem pm_calls (b : Nat) : ∀ (n : Nat) (p s : ByteArray) (w : World), p.size + s.size ≤ n → n ≤ 1000 → w.cell? ⟨b, 0, none⟩ = some (pmFn b) →
    Calls Tryz.prog 147 #[.string p, .string s, .pointer (some ⟨b, 0, none⟩)] w fun e w' => e = .returned (.bool (Sp.pm p.data.toList s.data.toList)) ∧ ∃ m, w' = w.drewN m := by
  intro n
  induction n with
  | zero =>
    intro p s w h hn hc
    have hp := Lib.hid (data_nil p (by omega))
    have hs := Lib.hid (data_nil s (by omega))
    have hp0 : p.toList = [] := by rw [toList_data, hp.out]
    have hs0 : s.toList = [] := by rw [toList_data, hs.out]
    go_enter Tryz.func147, Tryz.ntmps147
    go_wp2
    go_ret
    exact ⟨ret_bool (by rw [hp.out, hs.out, Sp.pm]; rfl), 0, rfl⟩
  | succ n ih =>
    intro p s w h hn hc
    have IH := Lib.hid ih
    clear ih
    by_cases hp : p.size = 0
    · have hp1 := Lib.hid (data_nil p hp)
      have hp0 : p.toList = [] := by rw [toList_data, hp1.out]
      clear hp
      go_enter Tryz.func147, Tryz.ntmps147
      go_wp2
      go_ret
      exact ⟨ret_bool (by rw [hp1.out, Sp.pm, toList_data]), 0, rfl⟩
    · have h1 := Lib.hid (data_cons p (by omega))
      have hp0 : 0 < p.size := by omega
      have hpn : p.toList.isEmpty = false := by rw [toList_data, h1.out]; rfl
      by_cases hst : p[0] = 42
      · have T := Lib.hid hst
        have hb : ((p[0]).toNat : Int) = 42 := by rw [hst]; rfl
        have hb1 : (((p[0]).toNat : Int) == 42) = true := by rw [hb]; rfl
        clear hb hst
        have hs1 : (p.extract 1 p.size).size + s.size ≤ n := by simp; omega
        obtain ⟨v1, hv⟩ : ∃ v, Sp.pm (p.data.toList.drop 1) s.data.toList = v := ⟨_, rfl⟩
        have C : ∀ nq, Calls Tryz.prog 147 #[.string (p.extract 1 p.size), .string s, .pointer (some ⟨b, 0, none⟩)] (w.drewN nq) fun e w' => e = .returned (.bool v1) ∧ ∃ m, w' = (w.drewN nq).drewN m := fun nq => by
          have := IH.out (p.extract 1 p.size) s (w.drewN nq) hs1 (by omega) hc
          rw [drop_one, hv] at this; exact this
        clear hs1
        have CC := Lib.hid C
        have HV := Lib.hid hv
        clear C hv
        by_cases hs : s.size = 0
        · have hs2 := Lib.hid (data_nil s hs)
          have hsn : s.toList = [] := by rw [toList_data, hs2.out]
          clear hs
          have fin := Lib.hid (show v1 = Sp.pm p.data.toList s.data.toList by rw [← HV.out, hs2.out, h1.out, pm_nil_right, if_pos T.out, List.drop_succ_cons, List.drop_zero])
          cases v1
          all_goals
            go_enter Tryz.func147, Tryz.ntmps147
            go_wp2_with fail
            go_quiet ((go_at_call 147; exact Calls.quiet_of (CC.out _)))
            go_wp2
            go_ret
            exact ⟨ret_bool fin.out, _, rfl⟩
        · have h2 := Lib.hid (data_cons s (by omega))
          have hsn : s.toList.isEmpty = false := by rw [toList_data, h2.out]; rfl
          have hs0 : 0 < s.size := by omega
          have hs1 : p.size + (s.extract 1 s.size).size ≤ n := by simp; omega
          obtain ⟨v2, hv2⟩ : ∃ v, Sp.pm p.data.toList (s.data.toList.drop 1) = v := ⟨_, rfl⟩
          have C2 : ∀ nq, Calls Tryz.prog 147 #[.string p, .string (s.extract 1 s.size), .pointer (some ⟨b, 0, none⟩)] (w.drewN nq) fun e w' => e = .returned (.bool v2) ∧ ∃ m, w' = (w.drewN nq).drewN m := fun nq => by
            have := IH.out p (s.extract 1 s.size) (w.drewN nq) hs1 (by omega) hc
            rw [drop_one, hv2] at this; exact this
          clear hs1
          have CC2 := Lib.hid C2
          have HV2 := Lib.hid hv2
          clear C2 hv2
          have fin := Lib.hid (show (v1 || v2) = Sp.pm p.data.toList s.data.toList by rw [← HV.out, ← HV2.out, h2.out, h1.out, pm_cons, if_pos T.out, List.drop_succ_cons, List.drop_zero, List.drop_succ_cons, List.drop_zero])
          cases v1
          · go_enter Tryz.func147, Tryz.ntmps147
            go_wp2_with fail
            go_quiet ((go_at_call 147; first | (with_reducible exact Calls.quiet_of (CC.out _)) | (with_reducible exact Calls.quiet_of (CC2.out _))))
            go_wp2
            go_ret
            exact ⟨ret_bool fin.out, _, rfl⟩
          · go_enter Tryz.func147, Tryz.ntmps147
            go_wp2_with fail
            go_quiet ((go_at_call 147; exact Calls.quiet_of (CC.out _)))
            go_wp2
            go_ret
            exact ⟨ret_bool (by rw [← fin.out]; rfl), _, rfl⟩
      · have hb1 : (((p[0]).toNat : Int) == 42) = false := by
          rw [beq_eq_false_iff_ne]; intro e; exact hst (UInt8.toNat_inj.1 (by simpa using (by omega : (p[0]).toNat = 42)))
        by_cases hs : s.size = 0
        · have hs2 := Lib.hid (data_nil s hs)
          have hsn : s.toList = [] := by rw [toList_data, hs2.out]
          have HST := Lib.hid hst
          clear hs hst
          go_enter Tryz.func147, Tryz.ntmps147
          go_wp2_with fail
          go_quiet (fail)
          go_wp2
          go_ret
          exact ⟨ret_bool (by rw [hs2.out, h1.out, pm_nil_right, if_neg HST.out]), _, rfl⟩
        · have h2 := Lib.hid (data_cons s (by omega))
          have hsn : s.toList.isEmpty = false := by rw [toList_data, h2.out]; rfl
          have hs0 : 0 < s.size := by omega
          have hs1 : (p.extract 1 p.size).size + (s.extract 1 s.size).size ≤ n := by simp; omega
          obtain ⟨v, hv⟩ : ∃ v, Sp.pm (p.data.toList.drop 1) (s.data.toList.drop 1) = v := ⟨_, rfl⟩
          have C : ∀ nq, Calls Tryz.prog 147 #[.string (p.extract 1 p.size), .string (s.extract 1 s.size), .pointer (some ⟨b, 0, none⟩)] (w.drewN nq) fun e w' => e = .returned (.bool v) ∧ ∃ m, w' = (w.drewN nq).drewN m := fun nq => by
            have := IH.out (p.extract 1 p.size) (s.extract 1 s.size) (w.drewN nq) hs1 (by omega) hc
            rw [drop_one, drop_one, hv] at this; exact this
          have fin := Lib.hid (show ((decide (p[0] = 63) || decide (p[0] = s[0])) && v) = Sp.pm p.data.toList s.data.toList by rw [← hv, h2, h1, pm_cons, if_neg hst, List.drop_succ_cons, List.drop_zero, List.drop_succ_cons, List.drop_zero])
          have CC := Lib.hid C
          clear C hv hs1
          by_cases hq : p[0] = 63
          · have hb2 : (((p[0]).toNat : Int) == 63) = true := by rw [hq]; rfl
            have HQ := Lib.hid hq
            clear hq hst
            go_enter Tryz.func147, Tryz.ntmps147
            go_wp2_with fail
            go_quiet ((go_at_call 147; with_reducible exact Calls.quiet_of (CC.out _)))
            go_wp2
            go_ret
            exact ⟨ret_bool (by rw [← fin.out, HQ.out]; simp), _, rfl⟩
          · have hb2 : (((p[0]).toNat : Int) == 63) = false := by
              rw [beq_eq_false_iff_ne]; intro e; exact hq (UInt8.toNat_inj.1 (by simpa using (by omega : (p[0]).toNat = 63)))
            by_cases he : p[0] = s[0]
            · have hb3 : (((p[0]).toNat : Int) == ((s[0]).toNat : Int)) = true := by rw [he]; simp
              have HE := Lib.hid he
              have HQ := Lib.hid hq
              clear hq hst he
              go_enter Tryz.func147, Tryz.ntmps147
              go_wp2_with fail
              go_quiet ((go_at_call 147; with_reducible exact Calls.quiet_of (CC.out _)))
              go_wp2
              go_ret
              exact ⟨ret_bool (by rw [← fin.out, HE.out]; simp), _, rfl⟩
            · have hb3 : (((p[0]).toNat : Int) == ((s[0]).toNat : Int)) = false := by
                rw [beq_eq_false_iff_ne]; intro e; exact he (UInt8.toNat_inj.1 (by omega))
              have HE := Lib.hid he
              have HQ := Lib.hid hq
              clear hq hst he
              go_enter Tryz.func147, Tryz.ntmps147
              go_wp2_with fail
              go_quiet (fail)
              go_wp2
              go_ret
              exact ⟨ret_bool (by rw [← fin.out]; simp [HE.out, HQ.out]), _, rfl⟩
end Go.Proofs.YteiblfcehlibpaaGreatDoor
namespace Go.Proofs.YteiblfcehlibpaaGreatDoor
open Go.RowKit

/-- A slice of texts at a block's head. -/
def Strs (w : World) (g : Nat) (L : List ByteArray) : Prop := ∀ k, (h : k < L.length) → w.cell? ⟨g, k, none⟩ = some (.string L[k])
theorem Strs.below {w w' : World} {g : Nat} {L : List ByteArray} (h : Strs w g L) (hb : Below w.heap.size w w') : Strs w' g L := fun k hk => by
  have := h k hk
  have hl : g < w.heap.size := World.block_lt_of_cell? _ _ this
  rw [hb.cell (p := ⟨g, k, none⟩) hl]; exact this

theorem split_calls (s : ByteArray) (w : World) (hsh : ∃ m, w.cell? ⟨0, 0, none⟩ = some (.int .i64 m)) (hs : s.size < 4294967281) :
    Calls Tryz.prog 102 #[.string s, .string ⟨#[47]⟩] w fun e w' => ∃ (g : Nat) (L : List ByteArray), e = .returned (.slice (some ⟨g, 0, none⟩) L.length L.length) ∧ L.map (·.data.toList) = Sp.split s.data.toList ∧ Strs w' g L ∧ Below w.heap.size w w' ∧ w.heap.size ≤ g ∧ L.length ≤ s.size + 1 := by
  obtain ⟨m, hm⟩ := hsh
  refine (Tryz.strings_Split s ⟨#[47]⟩ m w hs hm (by decide)).mono ?_
  rintro e w' ⟨rfl, rfl⟩
  have hl : (Lib.splitB ⟨#[47]⟩ 0 (Lib.countB s ⟨#[47]⟩) s).length = Lib.countB s ⟨#[47]⟩ + 1 := by rw [Sp.split_len, ← Sp.countB_split]
  refine ⟨w.heap.size, Lib.splitB ⟨#[47]⟩ 0 (Lib.countB s ⟨#[47]⟩) s, by rw [hl], Sp.split_lib s, ?_, (Below.refl _ _).alloc (Nat.le_refl _) _, Nat.le_refl _, ?_⟩
  · intro k hk
    rw [cell_of_row _ w.heap.size k _ 9 (0, 0) (heap_alloc_new w _)]
    simp [hk]
  · rw [hl]; have := Lib.countB_le ⟨#[47]⟩ (by decide) s.size s (Nat.le_refl _); omega

set_option maxHeartbeats 1000000 in
theorem gcheck_calls (s : ByteArray) (w : World) (hsh : ∃ m, w.cell? ⟨0, 0, none⟩ = some (.int .i64 m)) (hs : s.size < 4294967200) :
    Calls Tryz.prog 109 #[.string s] w fun e w' => e = .returned (.int .i64 (Sp.gcheck s.data.toList)) ∧ Below w.heap.size w w' := by
  go_enter Tryz.func109, Tryz.ntmps109
  go_wp2_with fail
  refine (split_calls s _ hsh (by omega)).mono ?_
  rintro e w1 ⟨g, L, rfl, hL, hS, hb, hg, hn⟩
  have hlen : (Sp.split s.data.toList).length = L.length := by rw [← hL, List.length_map]
  have g1 : 8 < L.length → Sp.gcheck s.data.toList = 2 := fun h => by unfold Sp.gcheck; rw [if_pos (by omega)]
  have g2 : ∀ k, (h : k < L.length) → 24 < L[k].size → L.length ≤ 8 → Sp.gcheck s.data.toList = 2 := fun k h hk h8 => by
    unfold Sp.gcheck; rw [if_neg (by omega), if_pos]
    rw [List.any_eq_true, ← hL]
    exact ⟨L[k].data.toList, List.mem_map.2 ⟨L[k], List.getElem_mem h, rfl⟩, by simpa using hk⟩
  have g3 : ∀ v, (∀ k, (h : k < L.length) → L[k].size ≤ 24) → L.length ≤ 8 → (Sp.split s.data.toList).all Sp.piece = v → Sp.gcheck s.data.toList = if v then 0 else 7 := fun v h h8 hv => by
    unfold Sp.gcheck; rw [if_neg (by omega), if_neg, hv]
    rw [Bool.not_eq_true, List.any_eq_false, ← hL]
    rintro x hx
    obtain ⟨y, hy, rfl⟩ := List.mem_map.1 hx
    obtain ⟨k, hk, rfl⟩ := List.getElem_of_mem hy
    have := h k hk; simpa using this
  have g4 : ∀ k, (h : k < L.length) → Sp.piece L[k].data.toList = false → (Sp.split s.data.toList).all Sp.piece = false := fun k h hp => by
    rw [List.all_eq_false, ← hL]; exact ⟨_, List.mem_map.2 ⟨L[k], List.getElem_mem h, rfl⟩, by simp [hp]⟩
  have g5 : (∀ k, (h : k < L.length) → Sp.piece L[k].data.toList = true) → (Sp.split s.data.toList).all Sp.piece = true := fun h => by
    rw [List.all_eq_true, ← hL]
    rintro x hx
    obtain ⟨y, hy, rfl⟩ := List.mem_map.1 hx
    obtain ⟨k, hk, rfl⟩ := List.getElem_of_mem hy
    exact h k hk
  have hsz : ∀ k, (h : k < L.length) → L[k].size ≤ s.size := by
    intro k h
    have : L[k].data.toList ∈ Sp.split s.data.toList := by rw [← hL]; exact List.mem_map.2 ⟨L[k], List.getElem_mem h, rfl⟩
    have := Sp.split_mem_le _ _ this; simpa using this
  have hsh1 : ∃ m, w1.cell? ⟨0, 0, none⟩ = some (.int .i64 m) := by
    obtain ⟨m, hm⟩ := hsh
    exact ⟨m, by rw [hb.cell (p := ⟨0, 0, none⟩) (World.block_lt_of_cell? _ _ hm)]; exact hm⟩
  have G1 := Lib.hid g1
  have G2 := Lib.hid g2
  have G3 := Lib.hid g3
  have G4 := Lib.hid g4
  have G5 := Lib.hid g5
  have HS := Lib.hid hS
  have HZ := Lib.hid hsz
  have HM := Lib.hid hsh1
  clear hL hlen g1 g2 g3 g4 g5 hS hsz hsh1 hsh hg
  go_wp2
  · have h8 : (8 : Int) < (L.length : Int) := by assumption
    go_ret
    exact ⟨ret_int (G1.out (by omega)).symm, hb⟩
  · have h8 : (L.length : Int) ≤ 8 := by assumption
    go_loop [5, 15] (fun _ i => ∃ k : Nat, k ≤ L.length ∧ i = .int .i64 k ∧ ∀ j, (h : j < L.length) → j < k → L[j].size ≤ 24) (fun _ i => L.length - (intOf i).toNat)
    case atStart => exact ⟨0, Nat.zero_le _, rfl, fun _ _ h => absurd h (by omega)⟩
    case round =>
      obtain ⟨k, hk, rfl, hall⟩ := hrel
      have HA := Lib.hid hall
      clear hall
      by_cases hlt : k < L.length
      · have hck := HS.out k hlt
        go_wp2
        · have h24 : (24 : Int) < (L[k].size : Int) := by assumption
          go_ret
          exact ⟨ret_int (G2.out k hlt (by omega) (by omega)).symm, hb⟩
        · have h24 : (L[k].size : Int) ≤ 24 := by assumption
          go_round
          case rel => exact ⟨k + 1, by omega, by go_num, fun j h hj => by
            by_cases e : j = k
            · subst e; omega
            · exact HA.out j h (by omega)⟩
          case measure => simp [intOf]; omega
      · go_wp2
        go_loop [7, 25] (fun _ i => ∃ k : Nat, k ≤ L.length ∧ i = .int .i64 k ∧ ∀ j, (h : j < L.length) → j < k → Sp.piece L[j].data.toList = true) (fun _ i => L.length - (intOf i).toNat)
        case atStart => exact ⟨0, Nat.zero_le _, rfl, fun _ _ h => absurd h (by omega)⟩
        case round =>
          obtain ⟨q, hq, rfl, hall⟩ := hrel
          have HB := Lib.hid hall
          clear hall
          by_cases hlq : q < L.length
          · have hcq := HS.out q hlq
            have hsz := HZ.out q hlq
            go_wp2_with (go_at_call 146; refine (piece_calls _ _ HM.out (by omega)).mono ?_; rintro e w' ⟨rfl, rfl⟩)
            · have hn : (!Sp.piece L[q].data.toList) = true := by assumption
              go_ret
              exact ⟨ret_int (G3.out false (fun j h => HA.out j h (by omega)) (by omega) (G4.out q hlq (by simpa using hn))).symm, hb⟩
            · have hn : (!Sp.piece L[q].data.toList) = false := by assumption
              go_round
              case rel => exact ⟨q + 1, by omega, by go_num, fun j h hj => by
                by_cases e : j = q
                · subst e; simpa using hn
                · exact HB.out j h (by omega)⟩
              case measure => simp [intOf]; omega
          · go_wp2
            go_ret
            exact ⟨ret_int (G3.out true (fun j h => HA.out j h (by omega)) (by omega) (G5.out fun j h => HB.out j h (by omega))).symm, hb⟩

end Go.Proofs.YteiblfcehlibpaaGreatDoor
