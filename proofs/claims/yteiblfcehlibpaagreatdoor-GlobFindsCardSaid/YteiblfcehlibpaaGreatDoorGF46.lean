/- Walks: patterns, the reference's. -/
import Derived.Test.YteiblfcehlibpaaGreatDoorGF45
import Derived.Test.YteiblfcehlibpaaGreatDoorGF03
namespace Go.Proofs.YteiblfcehlibpaaGreatDoor
open Go.RowKit

theorem name_two (c : UInt8) : Sp.name [97, c] = Sp.sign c := by
  unfold Sp.name
  have h : Sp.sign 97 = true := rfl
  simp [h]

set_option maxRecDepth 100000 in
set_option maxHeartbeats 400000 in
theorem rsign_calls (c : UInt8) (w : World) : Calls Tryz.prog 148 #[.int .u8 c.toNat] w fun e w' => e = .returned (.bool (Sp.wild c)) ∧ Below w.heap.size w w' := by
  by_cases h1 : c = 42
  · have F := Lib.hid (show Sp.wild c = true by rw [h1]; rfl)
    have b1 : ((c.toNat : Int) == 42) = true := by rw [h1]; rfl
    clear h1
    go_enter Tryz.func148, Tryz.ntmps148
    go_wp2_with fail
    go_ret
    exact ⟨ret_bool F.out.symm, Below.refl _ _⟩
  have b1 : ((c.toNat : Int) == 42) = false := by
    rw [beq_eq_false_iff_ne]; intro e; exact h1 (UInt8.toNat_inj.1 (by simpa using (by omega : c.toNat = 42)))
  by_cases h2 : c = 63
  · have F := Lib.hid (show Sp.wild c = true by rw [h2]; rfl)
    have b2 : ((c.toNat : Int) == 63) = true := by rw [h2]; rfl
    clear h1 h2
    go_enter Tryz.func148, Tryz.ntmps148
    go_wp2_with fail
    go_ret
    exact ⟨ret_bool F.out.symm, Below.refl _ _⟩
  have b2 : ((c.toNat : Int) == 63) = false := by
    rw [beq_eq_false_iff_ne]; intro e; exact h2 (UInt8.toNat_inj.1 (by simpa using (by omega : c.toNat = 63)))
  have F := Lib.hid (show Sp.wild c = Sp.sign c by unfold Sp.wild; rw [beq_eq_false_iff_ne.2 h1, beq_eq_false_iff_ne.2 h2, Bool.or_false, Bool.or_false])
  have N := Lib.hid fun W => rname_calls ⟨#[97, c]⟩ W (show 2 < 4294967281 by decide)
  have hn : Sp.name (ByteArray.mk #[97, c]).data.toList = Sp.sign c := name_two c
  simp only [hn] at N
  have hcv : (convert 183 9 (.slice (some ⟨w.heap.size, 0, none⟩) 1 1)).run Tryz.prog (w.alloc (.cells #[.int .u8 c.toNat] 5)) = .ok (.string ⟨#[c]⟩) (w.alloc (.cells #[.int .u8 c.toNat] 5)) :=
    conv_cells Tryz.underlying183 Tryz.underlying5 Tryz.underlying9 w.heap.size 0 1 [c] (fun i hi => by
      obtain rfl : i = 0 := by simpa using hi
      rw [cell_of_row _ w.heap.size 0 _ _ (0, 0) (heap_alloc_new w _)]; rfl)
  have hcat : ByteArray.mk #[97] ++ ByteArray.mk #[c] = ByteArray.mk #[97, c] := rfl
  clear h1 h2 hn
  go_enter Tryz.func148, Tryz.ntmps148
  go_wp2_with fail
  refine (N.out _).mono ?_
  rintro e w' ⟨rfl, rfl⟩
  go_wp2
  go_ret
  exact ⟨ret_bool F.out.symm, (Below.refl _ _).alloc (Nat.le_refl _) _⟩

theorem twoStars_snoc (l : Sp.Bs) (c : UInt8) : Sp.twoStars (l ++ [c]) = (Sp.twoStars l || (decide (c = 42) && decide (l.getLast? = some 42))) := by
  have one : ∀ (d : UInt8) (r : Sp.Bs), Sp.twoStars (d :: r) = (decide (d = 42 ∧ r.head? = some 42) || Sp.twoStars r) := by
    intro d r
    cases r with
    | nil => simp [Sp.twoStars]
    | cons e r =>
      by_cases h : d = 42 ∧ e = 42
      · obtain ⟨rfl, rfl⟩ := h; simp [Sp.twoStars]
      · rw [Sp.twoStars]
        · simp [h]
        · intro r' h1 h2; injection h2 with h2 _; exact h ⟨h1, h2⟩
  induction l with
  | nil => simp [Sp.twoStars]
  | cons d r ih =>
    rw [List.cons_append, one, ih, one]
    cases r with
    | nil => simp [Sp.twoStars]; cases decide (c = 42) <;> cases decide (d = 42) <;> simp_all
    | cons e r => simp [Bool.or_assoc]

theorem last_take (s : ByteArray) (j : Nat) (h : j < s.size) : (s.data.toList.take (j + 1)).getLast? = some s[j] := by
  rw [take_snoc s j h]; simp

theorem piece_eq (s : ByteArray) : Sp.piece s.data.toList = (s.data.toList.all Sp.wild && (decide (s.toList ≠ []) && (decide (s.toList = [42, 42]) || !Sp.twoStars s.data.toList))) := by
  rw [toList_data]; rfl
theorem two_mono (s : ByteArray) : ∀ d k, k + d ≤ s.size → Sp.twoStars (s.data.toList.take k) = true → Sp.twoStars (s.data.toList.take (k + d)) = true := by
  intro d
  induction d with
  | zero => intro k _ h; exact h
  | succ d ih =>
    intro k hk h
    rw [show k + (d + 1) = (k + d) + 1 by omega, take_snoc s (k + d) (by omega), twoStars_snoc, ih k (by omega) h]; rfl

set_option maxHeartbeats 1000000 in
theorem rpiece_calls (s : ByteArray) (w : World) (hs : s.size < 4294967281) : Calls Tryz.prog 112 #[.string s] w fun e w' => e = .returned (.bool (Sp.piece s.data.toList)) ∧ Below w.heap.size w w' := by
  by_cases h0 : s.toList = []
  · have F := Lib.hid (show Sp.piece s.data.toList = false by rw [piece_eq]; simp [h0])
    go_enter Tryz.func112, Tryz.ntmps112
    go_wp2
    go_ret
    exact ⟨ret_bool F.out.symm, Below.refl _ _⟩
  have e0 : s.toList.isEmpty = false := by simpa using h0
  obtain ⟨v, hv⟩ : ∃ v, decide (s.toList = [42, 42]) = v := ⟨_, rfl⟩
  have hb2 : (s.toList == [42, 42]) = v := by subst hv; by_cases h : s.toList = [42, 42] <;> simp [h]
  have F := Lib.hid (show Sp.piece s.data.toList = (s.data.toList.all Sp.wild && (v || !Sp.twoStars s.data.toList)) by rw [piece_eq, hv]; simp [h0])
  clear hv h0
  go_enter Tryz.func112, Tryz.ntmps112
  go_wp2
  go_loopw [3] (fun i wr => ∃ k : Nat, k ≤ s.size ∧ i = .int .i64 k ∧ (s.data.toList.take k).all Sp.wild = true ∧ (v || !Sp.twoStars (s.data.toList.take k)) = true ∧ Below w.heap.size w wr) (fun i _ => s.size - (intOf i).toNat)
  case atStart => exact ⟨0, Nat.zero_le _, rfl, rfl, by simp [Sp.twoStars], Below.refl _ _⟩
  case round =>
    obtain ⟨k, hk, rfl, hall, htwo, hb⟩ := hrel
    by_cases hlt : k < s.size
    · have ht := Lib.hid (take_all s k hlt Sp.wild hall)
      have hno := Lib.hid (all_no s k hlt Sp.wild)
      cases hq : Sp.wild s[k] with
      | false =>
        have C := Lib.hid fun W => rsign_calls s[k] W
        simp only [hq] at C
        have HQ := Lib.hid hq
        clear hall htwo hq
        go_wp2_with (go_at_call 148; refine (C.out _).mono ?_; rintro e w' ⟨rfl, hb1⟩)
        go_ret
        exact ⟨ret_bool (by rw [F.out, hno.out HQ.out]; rfl), keep_below hb hb1⟩
      | true =>
        have C := Lib.hid fun W => rsign_calls s[k] W
        simp only [hq] at C
        have HQ := Lib.hid hq
        have hsn := twoStars_snoc (s.data.toList.take k) s[k]
        rw [← take_snoc s k hlt] at hsn
        have hok : ((v || !Sp.twoStars (s.data.toList.take (k + 1))) = true) ∨ (v = false ∧ s[k] = 42 ∧ ∃ j, ∃ h : j < s.size, k = j + 1 ∧ s[j] = 42) := by
          rcases Bool.eq_false_or_eq_true (v || !Sp.twoStars (s.data.toList.take (k + 1))) with h | h
          · exact .inl h
          · right
            obtain ⟨h1, h2⟩ : v = false ∧ Sp.twoStars (s.data.toList.take (k + 1)) = true := by simpa using h
            rw [h1] at htwo
            rw [hsn] at h2
            have h3 : Sp.twoStars (s.data.toList.take k) = false := by simpa using htwo
            rw [h3] at h2
            simp only [Bool.false_or, Bool.and_eq_true, decide_eq_true_eq] at h2
            cases k with
            | zero => simp at h2
            | succ j => exact ⟨h1, h2.1, j, by omega, rfl, by have := h2.2; rw [last_take s j (by omega)] at this; exact Option.some.inj this⟩
        rcases hok with hok | ⟨hv0, hc, j, hj, rfl, hp⟩
        · have HO := Lib.hid hok
          have hne : ¬ (v = false ∧ s[k] = 42 ∧ ∃ j, ∃ h : j < s.size, k = j + 1 ∧ s[j] = 42) := by
            rintro ⟨rfl, hc, j, hj, rfl, hp⟩
            have h2 : Sp.twoStars (s.data.toList.take (j + 1 + 1)) = true := by rw [hsn, last_take s j hj, hp, hc]; simp
            rw [h2] at hok; simp at hok
          clear hall htwo hq hsn hok
          by_cases hc : s[k] = 42
          · have b1 : (((s[k]).toNat : Int) == 42) = true := by rw [hc]; rfl
            cases k with
            | zero =>
              clear hne hc
              go_wp2_with (go_at_call 148; refine (C.out _).mono ?_; rintro e w' ⟨rfl, hb1⟩)
              go_roundw
              case rel => exact ⟨1, by omega, by go_num, by rw [ht.out]; exact HQ.out, HO.out, keep_below hb hb1⟩
              case measure => simp [intOf]; omega
            | succ j =>
              have hj : j < s.size := by omega
              by_cases hp : s[j] = 42
              · have hv1 : v = true := by cases v with | true => rfl | false => exact absurd ⟨rfl, hc, j, hj, rfl, hp⟩ hne
                subst hv1
                have b2 : (((s[j]).toNat : Int) == 42) = true := by rw [hp]; rfl
                clear hne hc hp
                go_wp2_with (go_at_call 148; refine (C.out _).mono ?_; rintro e w' ⟨rfl, hb1⟩)
                go_roundw
                case rel => exact ⟨j + 1 + 1, by omega, by go_num, by rw [ht.out]; exact HQ.out, HO.out, keep_below hb hb1⟩
                case measure => simp [intOf]; omega
              · have b2 : (((s[j]).toNat : Int) == 42) = false := by
                  rw [beq_eq_false_iff_ne]; intro e; exact hp (UInt8.toNat_inj.1 (by simpa using (by omega : (s[j]).toNat = 42)))
                clear hne hc hp
                go_wp2_with (go_at_call 148; refine (C.out _).mono ?_; rintro e w' ⟨rfl, hb1⟩)
                go_roundw
                case rel => exact ⟨j + 1 + 1, by omega, by go_num, by rw [ht.out]; exact HQ.out, HO.out, keep_below hb hb1⟩
                case measure => simp [intOf]; omega
          · have b1 : (((s[k]).toNat : Int) == 42) = false := by
              rw [beq_eq_false_iff_ne]; intro e; exact hc (UInt8.toNat_inj.1 (by simpa using (by omega : (s[k]).toNat = 42)))
            clear hne hc
            go_wp2_with (go_at_call 148; refine (C.out _).mono ?_; rintro e w' ⟨rfl, hb1⟩)
            all_goals
              go_roundw
              case rel => exact ⟨k + 1, by omega, by go_num, by rw [ht.out]; exact HQ.out, HO.out, keep_below hb hb1⟩
              case measure => simp [intOf]; omega
        · subst hv0
          have b1 : (((s[j + 1]).toNat : Int) == 42) = true := by rw [hc]; rfl
          have b2 : (((s[j]).toNat : Int) == 42) = true := by rw [hp]; rfl
          have F2 := Lib.hid (show Sp.piece s.data.toList = false by
            have h2 : Sp.twoStars (s.data.toList.take (j + 1 + 1)) = true := by rw [hsn, last_take s j hj, hp, hc]; simp
            have h3 := two_mono s (s.size - (j + 2)) (j + 2) (by omega) h2
            rw [show j + 2 + (s.size - (j + 2)) = s.size by omega, take_size] at h3
            rw [F.out, h3]; simp)
          clear hall htwo hq hsn hc hp
          go_wp2_with (go_at_call 148; refine (C.out _).mono ?_; rintro e w' ⟨rfl, hb1⟩)
          go_ret
          exact ⟨ret_bool F2.out.symm, keep_below hb hb1⟩
    · obtain rfl : k = s.size := by omega
      rw [take_size] at hall htwo
      have H1 := Lib.hid hall
      have H2 := Lib.hid htwo
      clear hall htwo
      go_wp2
      go_ret
      exact ⟨ret_bool (by rw [F.out, H1.out, H2.out]; rfl), hb⟩

theorem split_count (s : ByteArray) (L : List ByteArray) (hL : L.map (·.data.toList) = Sp.split s.data.toList) : L.length ≤ s.size + 1 := by
  have h := congrArg List.length hL
  rw [List.length_map, ← Sp.countB_split] at h
  have := Lib.countB_le ⟨#[47]⟩ (by decide) s.size s (Nat.le_refl _); omega
/-- Is one of the first texts too long; is one no piece. -/
def szB (L : List ByteArray) (k : Nat) : Bool := decide (8 < L.length) || (L.take k).any fun x => decide (24 < x.size)
def fmB (L : List ByteArray) (k : Nat) : Bool := (L.take k).any fun x => !Sp.piece x.data.toList
theorem any_take (L : List ByteArray) (k : Nat) (h : k < L.length) (p : ByteArray → Bool) : (L.take (k + 1)).any p = ((L.take k).any p || p L[k]) := by
  rw [List.take_succ_eq_append_getElem h, List.any_append]; simp
theorem gcheck_flags (s : ByteArray) (L : List ByteArray) (hL : L.map (·.data.toList) = Sp.split s.data.toList) : Sp.gcheck s.data.toList = if szB L L.length then 2 else if fmB L L.length then 7 else 0 := by
  unfold Sp.gcheck szB fmB
  rw [← hL, List.length_map, List.any_map, List.all_map, List.take_length]
  have e1 : ((fun s : Sp.Bs => decide (24 < s.length)) ∘ fun x : ByteArray => x.data.toList) = fun x => decide (24 < x.size) := by funext x; simp
  have e2 : (L.any fun x => !Sp.piece x.data.toList) = !(L.all (Sp.piece ∘ fun x => x.data.toList)) := by rw [List.not_all_eq_any_not]; rfl
  rw [e1, e2]
  by_cases h : 8 < L.length
  · simp [h]
  · simp only [h, decide_false, Bool.false_or, if_false]
    cases (L.any fun x => decide (24 < x.size)) <;> cases (L.all (Sp.piece ∘ fun x => x.data.toList)) <;> simp

set_option maxHeartbeats 2000000 in
theorem rgcheck_calls (s : ByteArray) (w : World) (hs : s.size < 4294967200) :
    Calls Tryz.prog 77 #[.string s] w fun e w' => e = .returned (.int .i64 (Sp.gcheck s.data.toList)) ∧ Below w.heap.size w w' := by
  go_enter Tryz.func77, Tryz.ntmps77
  go_wp2_with fail
  refine (pieces_calls s _ (by omega)).mono ?_
  rintro e w1 ⟨hb, ⟨h0, _⟩ | ⟨g, cap, L, hl0, _, rfl, hL, hS, hg⟩⟩
  · exact absurd h0 (Sp.split_ne _)
  have hLs := split_count s L hL
  have G := Lib.hid (gcheck_flags s L hL)
  have HS := Lib.hid hS
  have HZ := Lib.hid (split_sizes s L hL)
  clear hL hS
  go_wp2_with fail
  go_loopw [4, 5, 6] (fun a b i wr => ∃ k : Nat, k ≤ L.length ∧ i = .int .i64 k ∧ a = .bool (szB L k) ∧ b = .bool (fmB L k) ∧ Below w1.heap.size w1 wr) (fun _ _ i _ => L.length - (intOf i).toNat)
  case atStart => exact ⟨0, Nat.zero_le _, rfl, by simp [szB]; omega, by simp [fmB], Below.refl _ _⟩
  case round =>
    obtain ⟨k, hk, rfl, rfl, rfl, hbr⟩ := hrel
    by_cases hlt : k < L.length
    · have hck := keep_cell (HS.out k hlt) hbr
      have hz := HZ.out k hlt
      have a1 := Lib.hid (show szB L (k + 1) = (szB L k || decide (24 < L[k].size)) by unfold szB; rw [any_take L k hlt, Bool.or_assoc])
      have a2 := Lib.hid (show fmB L (k + 1) = (fmB L k || !Sp.piece L[k].data.toList) by unfold fmB; rw [any_take L k hlt])
      obtain ⟨x, hx⟩ : ∃ x, szB L k = x := ⟨_, rfl⟩
      obtain ⟨y, hy⟩ : ∃ y, fmB L k = y := ⟨_, rfl⟩
      obtain ⟨z, hz1⟩ : ∃ z, Sp.piece L[k].data.toList = z := ⟨_, rfl⟩
      have C := Lib.hid fun W => rpiece_calls L[k] W (by omega)
      simp only [hz1] at C
      rw [hx, hy]
      rw [hx] at a1
      rw [hy, hz1] at a2
      clear hx hy hz1
      cases x <;> cases y
      all_goals
        go_wp2_with (go_at_call 112; refine (C.out _).mono ?_; rintro e w' ⟨rfl, hb1⟩)
        all_goals
          go_roundw
          case rel => exact ⟨k + 1, by omega, by go_num, by rw [a1.out]; simp <;> omega, by rw [a2.out]; simp, by first | exact keep_below hbr hb1 | exact hbr⟩
          case measure => simp [intOf]; omega
    · obtain rfl : k = L.length := by omega
      obtain ⟨x, hx⟩ : ∃ x, szB L L.length = x := ⟨_, rfl⟩
      obtain ⟨y, hy⟩ : ∃ y, fmB L L.length = y := ⟨_, rfl⟩
      rw [hx, hy] at G
      rw [hx, hy]
      clear hx hy
      have hbw := keep_below hb hbr
      cases x <;> cases y
      all_goals
        go_wp2_with fail
        go_ret
        exact ⟨ret_int (by rw [G.out]; rfl), hbw⟩
end Go.Proofs.YteiblfcehlibpaaGreatDoor
