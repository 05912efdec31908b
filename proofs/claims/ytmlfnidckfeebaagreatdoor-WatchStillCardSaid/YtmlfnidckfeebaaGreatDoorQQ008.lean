/- Walks: patterns are checked. Walks: names and paths, the program's and the reference's. Walks: kids. Walks: vectors and leaves as bytes. Walks: versions and leaves as bytes. -/
import Derived.IntWalk
import Derived.BigRegion
import Derived.Test.YtmlfnidckfeebaaGreatDoorQQ007
namespace Go.Proofs.YtmlfnidckfeebaaGreatDoor
open Go.RowKit

def Strs (w : World) (g : Nat) (L : List ByteArray) : Prop := ∀ k, (h : k < L.length) → w.cell? ⟨g, k, none⟩ = some (.string L[k])
theorem Strs.below {w w' : World} {g : Nat} {L : List ByteArray} (h : Strs w g L) (hb : Below w.heap.size w w') : Strs w' g L := fun k hk => by
  have := h k hk
  have hl : g < w.heap.size := World.block_lt_of_cell? _ _ this
  rw [hb.cell (p := ⟨g, k, none⟩) hl]; exact this

theorem split_calls (s : ByteArray) (w : World) (hsh : ∃ m, w.cell? ⟨1, 0, none⟩ = some (.int .i64 m)) (hs : s.size < 4294967281) :
    Calls Tryz.prog 179 #[.string s, .string ⟨#[47]⟩] w fun e w' => ∃ (g : Nat) (L : List ByteArray), e = .returned (.slice (some ⟨g, 0, none⟩) L.length L.length) ∧ L.map (·.data.toList) = Sp.split s.data.toList ∧ Strs w' g L ∧ Below w.heap.size w w' ∧ w.heap.size ≤ g ∧ L.length ≤ s.size + 1 := by
  obtain ⟨m, hm⟩ := hsh
  refine (Tryz.strings_Split s ⟨#[47]⟩ m w hs hm (by decide)).mono ?_
  rintro e w' ⟨rfl, rfl⟩
  have hl : (Lib.splitB ⟨#[47]⟩ 0 (Lib.countB s ⟨#[47]⟩) s).length = Lib.countB s ⟨#[47]⟩ + 1 := by rw [Sp.split_len, ← Sp.countB_split]
  refine ⟨w.heap.size, Lib.splitB ⟨#[47]⟩ 0 (Lib.countB s ⟨#[47]⟩) s, by rw [hl], Sp.split_lib s, ?_, (Below.refl _ _).alloc (Nat.le_refl _) _, Nat.le_refl _, ?_⟩
  · intro k hk
    rw [cell_of_row _ w.heap.size k _ 9 (0, 0) (heap_alloc_new w _)]
    simp [hk]
  · rw [hl]; have := Lib.countB_le ⟨#[47]⟩ (by decide) s.size s (Nat.le_refl _); omega

end Go.Proofs.YtmlfnidckfeebaaGreatDoor
namespace Go.Proofs.YtmlfnidckfeebaaGreatDoor
open Go.RowKit

set_option maxHeartbeats 400000 in
theorem sign_calls (c : UInt8) (w : World) : Calls Tryz.prog 242 #[.int .u8 c.toNat] w fun e w' => e = .returned (.bool (Sp.sign c)) ∧ w = w' := by
  have b := byte_lt c
  go_enter Tryz.func242, Tryz.ntmps242
  go_wp2
  all_goals
    go_ret
    exact ⟨ret_bool (by
      rw [Bool.eq_iff_iff]
      simp only [Sp.sign, Sp.low, Bool.or_eq_true, Bool.and_eq_true, decide_eq_true_eq, beq_iff_eq, UInt8.le_iff_toNat_le, ← UInt8.toNat_inj]
      simp [*] <;> omega), rfl⟩

theorem name_no (s : ByteArray) (h : s.toList = [] ∨ 12 < s.size ∨ s.toList = [46] ∨ s.toList = [46, 46]) : Sp.name s.data.toList = false := by
  rw [toList_data] at h
  unfold Sp.name
  have e : s.data.toList.length = s.size := by simp
  rcases h with h | h | h | h
  · rw [h]; rfl
  · rw [e]; simp [show ¬ s.size ≤ 12 by omega]
  · rw [h]; rfl
  · rw [h]; rfl
theorem name_if (s : ByteArray) (h0 : ¬ s.toList = []) (h1 : ¬ 12 < s.size) (h2 : ¬ s.toList = [46]) (h3 : ¬ s.toList = [46, 46]) : Sp.name s.data.toList = s.data.toList.all Sp.sign := by
  rw [toList_data] at h0 h2 h3
  unfold Sp.name
  have e : s.data.toList.length = s.size := by simp
  rw [e]; simp only [ne_eq, h0, h2, h3, not_false_eq_true, decide_true, Bool.true_and, Bool.and_true, decide_eq_true (show s.size ≤ 12 by omega)]

set_option maxHeartbeats 1000000 in
theorem name_calls (s : ByteArray) (w : World) (hs : s.size < 4294967281) : Calls Tryz.prog 180 #[.string s] w fun e w' => e = .returned (.bool (Sp.name s.data.toList)) ∧ w = w' := by
  by_cases h0 : s.toList = []
  · have F := Lib.hid (name_no s (.inl h0))
    go_enter Tryz.func180, Tryz.ntmps180
    go_wp2
    go_ret
    exact ⟨ret_bool F.out.symm, rfl⟩
  by_cases h1 : 12 < s.size
  · have F := Lib.hid (name_no s (.inr (.inl h1)))
    have e0 : s.toList.isEmpty = false := by simpa using h0
    have e1 : decide ((12 : Int) < (s.size : Int)) = true := by simp; omega
    clear h1
    go_enter Tryz.func180, Tryz.ntmps180
    go_wp2
    go_ret
    exact ⟨ret_bool F.out.symm, rfl⟩
  have e0 : s.toList.isEmpty = false := by simpa using h0
  have e1 : decide ((12 : Int) < (s.size : Int)) = false := by simp; omega
  by_cases h2 : s.toList = [46]
  · have F := Lib.hid (name_no s (.inr (.inr (.inl h2))))
    clear h1 e0
    go_enter Tryz.func180, Tryz.ntmps180
    go_wp2
    go_ret
    exact ⟨ret_bool F.out.symm, rfl⟩
  have e2 : (s.toList == [46]) = false := by simpa using h2
  by_cases h3 : s.toList = [46, 46]
  · have F := Lib.hid (name_no s (.inr (.inr (.inr h3))))
    clear h1 e0 h2 e2
    go_enter Tryz.func180, Tryz.ntmps180
    go_wp2
    go_ret
    exact ⟨ret_bool F.out.symm, rfl⟩
  have e3 : (s.toList == [46, 46]) = false := by simpa using h3
  have F := Lib.hid (name_if s h0 h1 h2 h3)
  clear h0 h1 h2 h3
  go_enter Tryz.func180, Tryz.ntmps180
  go_wp2
  go_loop [3, 21] (fun t i => ∃ k : Nat, k ≤ s.size ∧ i = .int .i64 k ∧ (s.data.toList.take k).all Sp.sign = true) (fun _ i => s.size - (intOf i).toNat)
  case atStart => exact ⟨0, Nat.zero_le _, rfl, rfl⟩
  case round =>
    obtain ⟨k, hk, rfl, hall⟩ := hrel
    by_cases hlt : k < s.size
    · have ht := Lib.hid (take_all s k hlt Sp.sign hall)
      go_wp2_with (go_at_call 242; refine (sign_calls _ _).mono ?_; rintro e w' ⟨rfl, rfl⟩)
      · have hn : (!Sp.sign s[k]) = true := by assumption
        go_ret
        exact ⟨ret_bool (by rw [F.out, all_no s k hlt Sp.sign (by simpa using hn)]), rfl⟩
      · have hn : (!Sp.sign s[k]) = false := by assumption
        go_round
        case rel => exact ⟨k + 1, by omega, by go_num, by rw [ht.out]; simpa using hn⟩
        case measure => simp [intOf]; omega
    · obtain rfl : k = s.size := by omega
      rw [take_size] at hall
      have H := Lib.hid hall
      clear hall
      go_wp2
      go_ret
      exact ⟨ret_bool (by rw [F.out, H.out]), rfl⟩

theorem parts_calls.pure (s : ByteArray) (L : List ByteArray) (hL : L.map (·.data.toList) = Sp.split s.data.toList) (h51 : s.size ≤ 51) :
    (4 < L.length → Sp.parts s.data.toList = []) ∧ (∀ k, (h : k < L.length) → Sp.name L[k].data.toList = false → Sp.parts s.data.toList = []) ∧
    (L.length ≤ 4 → (∀ k, (h : k < L.length) → Sp.name L[k].data.toList = true) → Sp.parts s.data.toList = L.map (·.data.toList)) := by
  have hlen : (Sp.split s.data.toList).length = L.length := by rw [← hL, List.length_map]
  have hl : ¬ 51 < s.data.toList.length := by simp; omega
  refine ⟨fun h => ?_, fun k h hn => ?_, fun h4 h => ?_⟩
  · unfold Sp.parts; rw [if_neg hl, if_pos (by omega)]
  · unfold Sp.parts; rw [if_neg hl]
    split
    · rfl
    · rw [if_neg]
      rw [Bool.not_eq_true, List.all_eq_false, ← hL]
      exact ⟨_, List.mem_map.2 ⟨L[k], List.getElem_mem h, rfl⟩, by simp [hn]⟩
  · unfold Sp.parts; rw [if_neg hl, if_neg (by omega), if_pos, hL]
    rw [List.all_eq_true, ← hL]
    rintro x hx
    obtain ⟨y, hy, rfl⟩ := List.mem_map.1 hx
    obtain ⟨k, hk, rfl⟩ := List.getElem_of_mem hy
    exact h k hk
theorem split_sizes (s : ByteArray) (L : List ByteArray) (hL : L.map (·.data.toList) = Sp.split s.data.toList) : ∀ k, (h : k < L.length) → L[k].size ≤ s.size := by
  intro k h
  have : L[k].data.toList ∈ Sp.split s.data.toList := by rw [← hL]; exact List.mem_map.2 ⟨L[k], List.getElem_mem h, rfl⟩
  have := Sp.split_mem_le _ _ this; simpa using this
theorem max_kept {w w1 : World} {g : Nat} (h : ∃ m, w.cell? ⟨g, 0, none⟩ = some (.int .i64 m)) (hb : Below w.heap.size w w1) : ∃ m, w1.cell? ⟨g, 0, none⟩ = some (.int .i64 m) := by
  obtain ⟨m, hm⟩ := h
  exact ⟨m, by rw [hb.cell (p := ⟨g, 0, none⟩) (World.block_lt_of_cell? _ _ hm)]; exact hm⟩

def ToldStrs (w : World) (l : List Sp.Bs) (e : Ending) (w' : World) : Prop :=
  Below w.heap.size w w' ∧ ((l = [] ∧ e = .returned (.slice none 0 0)) ∨ ∃ (g cap : Nat) (L : List ByteArray), 0 < L.length ∧ L.length ≤ cap ∧ e = .returned (.slice (some ⟨g, 0, none⟩) L.length cap) ∧ L.map (·.data.toList) = l ∧ Strs w' g L ∧ w.heap.size ≤ g)

set_option maxHeartbeats 1000000 in
theorem parts_calls (s : ByteArray) (w : World) (hsh : ∃ m, w.cell? ⟨1, 0, none⟩ = some (.int .i64 m)) :
    Calls Tryz.prog 112 #[.string s] w (ToldStrs w (Sp.parts s.data.toList)) := by
  by_cases h51 : 51 < s.size
  · have F := Lib.hid (show Sp.parts s.data.toList = [] by unfold Sp.parts; rw [if_pos (by simpa using h51)])
    go_enter Tryz.func112, Tryz.ntmps112
    go_wp2
    go_ret
    exact ⟨Below.refl _ _, .inl ⟨F.out, rfl⟩⟩
  go_enter Tryz.func112, Tryz.ntmps112
  go_wp2_with fail
  refine (split_calls s _ hsh (by omega)).mono ?_
  rintro e w1 ⟨g, L, rfl, hL, hS, hb, hg, hn⟩
  obtain ⟨p1, p2, p3⟩ := parts_calls.pure s L hL (by omega)
  have hz := split_sizes s L hL
  have hl0 : 0 < L.length := by
    rw [← List.length_map (f := fun x : ByteArray => x.data.toList), hL]; exact List.length_pos_iff.2 (Sp.split_ne _)
  have P1 := Lib.hid p1
  have P2 := Lib.hid p2
  have P3 := Lib.hid p3
  have HS := Lib.hid hS
  have HZ := Lib.hid hz
  have HL := Lib.hid hL
  clear p1 p2 p3 hS hz hsh hL
  go_wp2
  · have h4 : (4 : Int) < (L.length : Int) := by assumption
    go_ret
    exact ⟨hb, .inl ⟨P1.out (by omega), rfl⟩⟩
  · have h4 : (L.length : Int) ≤ 4 := by assumption
    go_loop [5, 16] (fun _ i => ∃ k : Nat, k ≤ L.length ∧ i = .int .i64 k ∧ ∀ j, (h : j < L.length) → j < k → Sp.name L[j].data.toList = true) (fun _ i => L.length - (intOf i).toNat)
    case atStart => exact ⟨0, Nat.zero_le _, rfl, fun _ _ h => absurd h (by omega)⟩
    case round =>
      obtain ⟨k, hk, rfl, hall⟩ := hrel
      have HA := Lib.hid hall
      clear hall
      by_cases hlt : k < L.length
      · have hck := HS.out k hlt
        have hzk := HZ.out k hlt
        go_wp2_with (go_at_call 180; refine (name_calls _ _ (by omega)).mono ?_; rintro e w' ⟨rfl, rfl⟩)
        · have hq : (!Sp.name L[k].data.toList) = true := by assumption
          go_ret
          exact ⟨hb, .inl ⟨P2.out k hlt (by simpa using hq), rfl⟩⟩
        · have hq : (!Sp.name L[k].data.toList) = false := by assumption
          go_round
          case rel => exact ⟨k + 1, by omega, by go_num, fun j h hj => by
            by_cases e : j = k
            · subst e; simpa using hq
            · exact HA.out j h (by omega)⟩
          case measure => simp [intOf]; omega
      · go_wp2
        go_ret
        exact ⟨hb, .inr ⟨g, _, L, hl0, Nat.le_refl _, rfl, (P3.out (by omega) fun j h => HA.out j h (by omega)).symm, HS.out, hg⟩⟩
end Go.Proofs.YtmlfnidckfeebaaGreatDoor
namespace Go.Proofs.YtmlfnidckfeebaaGreatDoor
open Go.RowKit
attribute [local go_sem] yUpon strOf_toList
def kid0 : Array Value := (kidL ([], List.replicate 32 0)).toArray
theorem kid_one (k : Sp.Kid) : (kidL k).toArray.all (·.oneCell') = true := by
  apply all_oneCell_toArray
  intro u hu
  unfold kidL at hu
  rcases List.mem_cons.1 hu with rfl | hu
  · rfl
  · exact bytes_one _ u hu
set_option maxRecDepth 100000 in
set_option maxHeartbeats 4000000 in
theorem kids_calls (l : List Sp.Kid) (A : Option Addr) (cap : Nat) (w : World) (h : Kids w A l) :
    Calls Tryz.prog 312 #[.slice A l.length cap] w fun e w' => e = .returned (.int .i64 (Sp.kcheck l)) ∧ Ext w w' := by
  by_cases h128 : 128 < l.length
  · have F := Lib.hid (show Sp.kcheck l = 2 from if_pos h128)
    have c1 : (128 : Int) < (l.length : Int) := by omega
    go_enter Tryz.func312, Tryz.ntmps312
    go_wp2
    go_ret
    exact ⟨ret_int F.out.symm, Ext.refl _⟩
  · have F := Lib.hid (show Sp.kcheck l = Sp.kgo (Sp.pv l 0) (l.drop 0) from if_neg h128)
    have c1 : ¬ (128 : Int) < (l.length : Int) := by omega
    go_enter Tryz.func312, Tryz.ntmps312
    go_wp2
    go_loopw [10] (fun v10 wr => ∃ k : Nat, k ≤ l.length ∧ v10 = .int .i64 k ∧ Ext w wr ∧ Sp.kcheck l = Sp.kgo (Sp.pv l k) (l.drop k)) (fun v10 _ => l.length - (intOf v10).toNat)
    case atStart => exact ⟨0, Nat.zero_le _, rfl, Ext.refl _, F.out⟩
    case round =>
      obtain ⟨k, hk, rfl, hb, hf⟩ := hrel
      by_cases hlt : k < l.length
      · obtain ⟨g, o, rfl, hat⟩ := (h.ext hb).at (by omega)
        have hok := h.2 l[k] (List.getElem_mem hlt)
        rw [Sp.kgo_step l k hlt] at hf
        have hR := hat k hlt
        obtain ⟨kd, hkd⟩ : ∃ kd, kd = l[k] := ⟨_, rfl⟩
        rw [← hkd] at hf hok hR
        have HR := Lib.hid hR
        have KL := kidL_len kd hok.1
        have ka : ((kidL kd).toArray).size = 33 := by simp [KL]
        have k0 : ((kidL kd).toArray)[0]? = some (.string (strOf kd.1)) := rfl
        have HF := Lib.hid hf
        have HB := Lib.hid hb
        have HAT := Lib.hid hat
        have HLT := Lib.hid hlt
        have HKD := Lib.hid hkd
        clear hR hf hb hat hkd
        have tok2 : True := trivial
        have tok3 : True := trivial
        have tok4 : True := trivial
        go_wp2_with (first
          | (have _t2 := tok2; (with_reducible refine at_load (t := 268) rfl ?_); refine wpList_load_mid rfl _ _ rfl g (o + k * 33) rfl (kidL kd) _ HR.out Tryz.underlying268 rfl (by rw [KL]; kernel_rfl) ?_; clear tok2 _t2)
          | (have _t3 := tok3; ((with_reducible refine at_alloc (t := 268) rfl ?_); refine box_new rfl (cs := kid0) (t := 268) (by first | (go_simp; done) | (go_simp; rfl)) ?_; intro g4 w4 hg4 hx4 hb4; have H4 := Lib.hid hx4; have B4 := Lib.hid hb4; have GG4 := Lib.hid hg4; clear tok3 _t3 hx4 hb4 hg4))
          | (have _t4 := tok4; ((with_reducible refine at_store (t := 268) rfl ?_); refine wpList_store_row rfl _ _ _ rfl g4 (kidL kd).toArray rfl rfl 268 _ H4.out (by rw [ka]; kernel_rfl) (by rw [ka]; rfl) (kid_one kd) ?_; obtain ⟨w5, hw5⟩ : ∃ w5, w5 = w4.setRow g4 (kidL kd).toArray := ⟨_, rfl⟩; rw [← hw5]; have B5 := Lib.hid (show Ext wr w5 by rw [hw5]; exact below_setRow B4.out GG4.out _); have X5 := Lib.hid (show isBlk w5 g4 268 (kidL kd).toArray by rw [hw5]; exact setRow_heap _ _ _ _ _ _ H4.out); have f0 := (X5.out.cell 0).trans k0; clear hw5 tok4 _t4)))
        have NC := Lib.hid (name_calls (strOf kd.1) w5 (by rw [strOf_size]; omega))
        rw [strOf_data] at NC
        refine NC.out.mono ?_
        rintro e w6 ⟨rfl, rfl⟩
        have EW := Lib.hid (HB.out.trans B5.out)
        by_cases nm : Sp.name kd.1 = true
        · by_cases hk0 : 0 < k
          · obtain ⟨j, hj⟩ : ∃ j, k = j + 1 := ⟨k - 1, by omega⟩
            have q1 : IntKind.i64.wrap ((k : Int) - 1) = (j : Int) := by rw [IntWalk.i64_in _ (by omega)]; omega
            have b1 : (j : Int) < (l.length : Int) := by omega
            have b2 : (0 : Int) < (k : Int) := by omega
            have kj := kid_name (HAT.out j (by omega))
            obtain ⟨lj, hlj⟩ : ∃ lj, lj = (l[j]'(by omega)).1 := ⟨_, rfl⟩
            rw [← hlj] at kj
            have PV := Lib.hid (show Sp.pv l k = some lj by
              have hjl : j < l.length := by omega
              unfold Sp.pv
              rw [hlj, if_neg (by omega), show k - 1 = j by omega, List.getElem?_eq_getElem hjl]; rfl)
            have KJ := Lib.hid (B5.out.cell kj)
            clear hlj kj hj
            go_wp2_with fail
            refine wp_region_det (fun W => Ext w5 W) (by kernel_rfl) (by kernel_rfl) (Below.refl _ _).drew ?_
            repeat (first
              | (refine det_step (fun K hK => ?_)
                 apply Exists.intro
                 refine ⟨Or.inl ⟨rfl, fun W hS => ?_⟩, ?_⟩
                 · replace hS : Ext w5 W := hS
                   have z := X5.out.below hS; have f0 := (z.cell 0).trans k0; have f1 := hS.cell KJ.out
                   go_simp
                   first
                   | exact rfl
                   | exact ⟨rfl, hS⟩
                   | (fail)
                 go_simp
                 refine hK _ ?_
                 clear hK K)
              | (refine det_step (fun K hK => ?_); refine det_no' rfl ?_; go_simp; refine hK _ ?_; clear hK K))
            refine det_nil ?_
            intro W9 hS
            replace hS : Ext _ W9 := hS
            have F' := HF.out
            rw [if_neg (by rw [nm]; decide), PV.out] at F'
            have F'' := Lib.hid F'
            have HS := Lib.hid (EW.out.trans hS)
            clear F' hS
            go_wp2
            · rename_i hq
              have F' := F''.out
              have hle : Sp.le kd.1 lj = true := by unfold Sp.le; rcases hq with hq | hq <;> simp [hq]
              rw [if_pos (by simpa using hle)] at F'
              go_ret
              exact ⟨ret_int F'.symm, HS.out⟩
            · rename_i hq
              have F' := F''.out
              have hle : ¬ Sp.le kd.1 lj = true := by unfold Sp.le; rw [hq.1, hq.2]; decide
              rw [if_neg (by simpa using hle)] at F'
              go_roundw
              case rel => exact ⟨k + 1, by omega, by go_num, HS.out, F'⟩
              case measure => simp [intOf]; omega
          · obtain rfl : k = 0 := by omega
            have b2 : ¬ (0 : Int) < ((0 : Nat) : Int) := by decide
            go_wp2_with fail
            refine wp_region_det (fun W => Ext w5 W) (by kernel_rfl) (by kernel_rfl) (Below.refl _ _).drew ?_
            repeat (first
              | (refine det_step (fun K hK => ?_)
                 apply Exists.intro
                 refine ⟨Or.inl ⟨rfl, fun W hS => ?_⟩, ?_⟩
                 · replace hS : Ext w5 W := hS
                   have z := X5.out.below hS
                   go_simp
                   first
                   | exact rfl
                   | exact ⟨rfl, hS⟩
                   | (fail)
                 go_simp
                 refine hK _ ?_
                 clear hK K)
              | (refine det_step (fun K hK => ?_); refine det_no' rfl ?_; go_simp; refine hK _ ?_; clear hK K))
            refine det_nil ?_
            intro W9 hS
            replace hS : Ext _ W9 := hS
            have F' := HF.out
            rw [if_neg (by rw [nm]; decide), if_neg (by simp [Sp.pv])] at F'
            have HS := Lib.hid (EW.out.trans hS)
            go_wp2
            go_roundw
            case rel => exact ⟨0 + 1, by omega, by go_num, HS.out, F'⟩
            case measure => simp [intOf]; omega
        · have nf : Sp.name kd.1 = false := by simpa using nm
          have F' := HF.out
          rw [if_pos nf] at F'
          go_wp2
          go_ret
          exact ⟨ret_int F'.symm, EW.out⟩
      · obtain rfl : k = l.length := by omega
        have F' : Sp.kcheck l = 0 := by rw [hf, List.drop_length]; rfl
        go_wp2
        go_ret
        exact ⟨ret_int F'.symm, hb⟩
abbrev nodeV (A : Option Addr) (n cap : Nat) (B : Option Addr) (m cap' : Nat) : Value := .agg #[.slice A n cap, .slice B m cap']
end Go.Proofs.YtmlfnidckfeebaaGreatDoor
namespace Go.Proofs.YtmlfnidckfeebaaGreatDoor
open Go.RowKit Go.Shelf
set_option maxRecDepth 100000 in
set_option maxHeartbeats 2000000 in
theorem putvec1_calls (B g k : Nat) (x : Sp.W) (d : Sp.Dot) (w : World) (h : IsWr B g x w) (hk : isBlk w k 170 #[.pointer (some ⟨g, 0, none⟩)]) (hlen : x.1.length ≤ 10000000000000) (hBw : B ≤ w.heap.size) :
    Calls Tryz.prog 189 #[dotV d, .pointer (some ⟨k, 0, none⟩)] w fun e w' => e = .returned (.tuple #[]) ∧ WTo B g (Sp.wdot d x) w w' := by
  have C := Lib.hid (putdot_calls B g x d (w.alloc (.cells #[.int .i64 d.1, .int .i64 d.2] 68)) (h.below (Ext.alloc _ _)) hlen (by simp; omega))
  have HB := Lib.hid hBw
  have z := hk.below (Ext.alloc w (.cells #[.int .i64 d.1, .int .i64 d.2] 68))
  have c0 := (z.cell 0).trans rfl
  clear h hBw z hk
  go_enter Tryz.func189, Tryz.ntmps189
  go_wp2_with fail
  refine C.out.mono ?_
  rintro e w1 ⟨rfl, hw⟩
  have HW := Lib.hid hw
  clear hw
  go_wp2_with fail
  go_end0
  exact ⟨rfl, HW.out.wr, ((Below.refl B w).alloc HB.out _).trans HW.out.below, (Kept.below (Ext.alloc _ _)).trans HW.out.kept, by have := HW.out.size; rw [World.size_alloc] at this; omega⟩
set_option maxRecDepth 100000 in
set_option maxHeartbeats 4000000 in
theorem listdot_calls (w0 : World) (g k : Nat) (x : Sp.W) (l : List Sp.Dot) (A : Option Addr) (cap : Nat) (w : World) (E : Ext w0 w) (h : IsWr w0.heap.size g x w) (hD : Dots w0 A l) (hl : l.length ≤ 1000000) (hk : isBlk w k 170 #[.pointer (some ⟨g, 0, none⟩)]) (hlen : x.1.length ≤ 1000000000000) :
    Calls Tryz.prog 188 #[.pointer (some ⟨g, 0, none⟩), .slice A l.length cap, .func (.func 189) #[] #[.pointer (some ⟨k, 0, none⟩)]] w fun e w' => e = .returned (.tuple #[]) ∧ WTo w0.heap.size g (Sp.wdots l (Sp.wnum l.length x)) w w' := by
  have N := Lib.hid (wnum_calls w0.heap.size g x l.length w h (by omega) E.size)
  have HK := Lib.hid hk
  have hx1 := Sp.wnum_len (l.length : Int) x
  obtain ⟨y, hy⟩ : ∃ y, y = Sp.wnum (l.length : Int) x := ⟨_, rfl⟩
  rw [← hy] at N hx1 ⊢
  clear h hk hy
  go_enter Tryz.func188, Tryz.ntmps188
  go_wp2_with fail
  refine N.out.mono ?_
  rintro e w1 ⟨rfl, hw1, hb1, hk1, hs1⟩
  have W1 := Lib.hid (show WTo w0.heap.size g y w w1 from ⟨hw1, hb1, hk1, hs1⟩)
  clear hw1 hb1 hk1 hs1
  go_wp2_with fail
  go_loopw [14] (fun v14 wr => ∃ i : Nat, i ≤ l.length ∧ v14 = .int .i64 i ∧ WTo w0.heap.size g (Sp.wdots (l.take i) y) w wr) (fun v14 _ => l.length - (intOf v14).toNat)
  case atStart => exact ⟨0, Nat.zero_le _, rfl, W1.out⟩
  case round =>
    obtain ⟨i, hi, rfl, hw⟩ := hrel
    by_cases hlt : i < l.length
    · have eW := hw.ext E
      obtain ⟨ga, o, rfl, hc⟩ := (hD.ext eW).at (by omega)
      obtain ⟨c1, c2⟩ := hc i hlt
      have hyl := Sp.wdots_len (l.take i) y
      rw [List.length_take] at hyl
      have C := Lib.hid (putvec1_calls w0.heap.size g k (Sp.wdots (l.take i) y) l[i] (wr.alloc (.cells #[.int .i64 l[i].1, .int .i64 l[i].2] 68)) (hw.wr.below (Ext.alloc _ _)) ((hw.kept _ _ _ HK.out (by decide) (by decide)).below (Ext.alloc _ _)) (by omega) (by have := eW.size; simp; omega))
      have ST := Lib.hid (show Sp.wdots (l.take (i + 1)) y = Sp.wdot l[i] (Sp.wdots (l.take i) y) by rw [List.take_succ_eq_append_getElem hlt, Sp.wdots_snoc])
      have HW := Lib.hid hw
      have EW := Lib.hid eW.size
      clear hc hw eW hyl
      go_wp2_with (go_at_call 189; refine C.out.mono ?_; rintro e w2 ⟨rfl, hw2⟩; have H2 := Lib.hid hw2; clear hw2)
      go_roundw
      case rel =>
        refine ⟨i + 1, by omega, by go_num, by rw [ST.out]; exact H2.out.wr, ?_, ?_, ?_⟩
        · exact H2.out.below.from (HW.out.below.trans ((Below.refl _ _).alloc EW.out _))
        · exact HW.out.kept.trans ((Kept.below (Ext.alloc _ _)).trans H2.out.kept)
        · have := H2.out.size; have := HW.out.size; rw [World.size_alloc] at *; omega
      case measure => simp [intOf]; omega
    · obtain rfl : i = l.length := by omega
      rw [List.take_length] at hw
      have HW := Lib.hid hw
      clear hw
      go_wp2_with fail
      go_end0
      exact ⟨rfl, HW.out⟩
set_option maxRecDepth 100000 in
set_option maxHeartbeats 4000000 in
theorem putvec_calls (w0 : World) (g : Nat) (x : Sp.W) (l : List Sp.Dot) (A : Option Addr) (cap : Nat) (w : World) (E : Ext w0 w) (h : IsWr w0.heap.size g x w) (hD : Dots w0 A l) (hl : l.length ≤ 140737488351232) (hlen : x.1.length ≤ 100000000000) :
    Calls Tryz.prog 121 #[.pointer (some ⟨g, 0, none⟩), .slice A l.length cap] w fun e w' => e = .returned (.tuple #[]) ∧ WTo w0.heap.size g (Sp.wvec l x) w w' := by
  obtain ⟨W0, hW0⟩ : ∃ W0, W0 = w.alloc (.cells #[.pointer (some ⟨g, 0, none⟩)] 170) := ⟨_, rfl⟩
  have HBX := Lib.hid (show isBlk W0 w.heap.size 170 #[.pointer (some ⟨g, 0, none⟩)] by rw [hW0]; exact box_at _ _ _)
  have E0 := Lib.hid (show Ext w W0 by rw [hW0]; exact Ext.alloc _ _)
  have HW := Lib.hid hW0.symm
  have CK := Lib.hid (vcheck_calls l A cap W0 (hD.ext (E.trans E0.out)) hl)
  have HI := Lib.hid (h.below E0.out)
  clear hW0
  by_cases hz : Sp.vcheck l = 0
  · have F := Lib.hid (show Sp.wvec l x = Sp.wdots l (Sp.wnum l.length x) from if_neg (by simpa using hz))
    have L := Lib.hid fun W (e : Ext W0 W) => listdot_calls w0 g w.heap.size x l A cap W (E.trans (E0.out.trans e)) (HI.out.below e) hD (by have := Sp.vcheck_len hz; omega) (HBX.out.below e) (by omega)
    rw [hz] at CK
    clear hz h
    go_enter Tryz.func121, Tryz.ntmps121
    go_wp2_with fail
    rw [HW.out]
    refine CK.out.mono ?_
    rintro e w1 ⟨rfl, hb1⟩
    have c0 := ((HBX.out.below hb1).cell 0).trans rfl
    have B1 := Lib.hid hb1
    clear hb1
    go_wp2_with fail
    refine (L.out w1 B1.out).mono ?_
    rintro e w2 ⟨rfl, hw2⟩
    have H2 := Lib.hid hw2
    clear hw2 c0
    go_wp2_with fail
    go_end0
    have e1 := E0.out.trans B1.out
    exact ⟨rfl, by rw [F.out]; exact H2.out.wr, (Below.mono e1 E.size).trans H2.out.below, (Kept.below e1).trans H2.out.kept, Nat.le_trans e1.size H2.out.size⟩
  · have F := Lib.hid (show Sp.wvec l x = Sp.wfail (Sp.vcheck l) x from if_pos hz)
    have L := Lib.hid fun W (e : Ext W0 W) => wfail_calls w0.heap.size g x (Sp.vcheck l) W (HI.out.below e)
    have b1 : (Sp.vcheck l != 0) = true := by simpa using hz
    clear hz h
    go_enter Tryz.func121, Tryz.ntmps121
    go_wp2_with fail
    rw [HW.out]
    refine CK.out.mono ?_
    rintro e w1 ⟨rfl, hb1⟩
    have c0 := ((HBX.out.below hb1).cell 0).trans rfl
    have B1 := Lib.hid hb1
    clear hb1
    go_wp2_with fail
    refine (L.out w1 B1.out).mono ?_
    rintro e w2 ⟨rfl, hw2, hb2, hk2, hs2⟩
    go_wp2_with fail
    refine bodyPost_ret (results_none rfl _ _ _) rfl ?_
    have e1 := E0.out.trans B1.out
    exact ⟨rfl, by rw [F.out]; exact hw2, (Below.mono e1 E.size).trans hb2, (Kept.below e1).trans hk2, Nat.le_trans e1.size hs2⟩
end Go.Proofs.YtmlfnidckfeebaaGreatDoor
namespace Go.Proofs.YtmlfnidckfeebaaGreatDoor
open Go.RowKit Go.Shelf
set_option maxRecDepth 100000 in
set_option maxHeartbeats 4000000 in
theorem putver_calls (w0 : World) (g : Nat) (x : Sp.W) (v : Sp.Ver) (A : Option Addr) (cap : Nat) (w : World) (E : Ext w0 w) (h : IsWr w0.heap.size g x w) (hP : Past w0 A v) (hd : v.data.length ≤ 4000000000) (hlen : x.1.length ≤ 10000000000) :
    Calls Tryz.prog 251 #[.pointer (some ⟨g, 0, none⟩), verV A cap v] w fun e w' => e = .returned (.tuple #[]) ∧ WTo w0.heap.size g (Sp.wver v x) w w' := by
  obtain ⟨W0, hW0⟩ : ∃ W0, W0 = w.alloc (.cells (verC A cap v) 71) := ⟨_, rfl⟩
  have HBX := Lib.hid (show isBlk W0 w.heap.size 71 (verC A cap v) by rw [hW0]; exact box_at _ _ _)
  have E0 := Lib.hid (show Ext w W0 by rw [hW0]; exact Ext.alloc _ _)
  have HW := Lib.hid hW0.symm
  have l1 := Sp.wdot_len v.dot x
  have l2 := Sp.wvec_len v.past (Sp.wdot v.dot x)
  have l3 := Sp.wflag_len v.dead (Sp.wvec v.past (Sp.wdot v.dot x))
  have C1 := Lib.hid (putdot_calls w0.heap.size g x v.dot W0 (h.below E0.out) (by omega) (Nat.le_trans E.size E0.out.size))
  have C2 := Lib.hid fun W (e : Ext w0 W) (hw : IsWr w0.heap.size g (Sp.wdot v.dot x) W) => putvec_calls w0 g _ v.past A cap W e hw hP.1 hP.2 (by omega)
  have C3 := Lib.hid fun W (e : Ext w0 W) (hw : IsWr w0.heap.size g (Sp.wvec v.past (Sp.wdot v.dot x)) W) => wflag_calls w0.heap.size g _ v.dead W hw (by omega) e.size
  have C4 := Lib.hid fun W (e : Ext w0 W) (hw : IsWr w0.heap.size g (Sp.wflag v.dead (Sp.wvec v.past (Sp.wdot v.dot x))) W) => wtext_calls w0.heap.size g _ (strOf v.data) W hw (by omega) (by rw [strOf_size]; omega) e.size
  have EE := Lib.hid (E.trans E0.out)
  rw [strOf_data] at C4
  clear h hW0 hP l1 l2 l3
  go_enter Tryz.func251, Tryz.ntmps251
  go_wp2_with fail
  rw [HW.out]
  refine C1.out.mono ?_
  rintro e w1 ⟨rfl, hw1⟩
  have H1 := Lib.hid hw1
  have E1 := Lib.hid (hw1.ext EE.out)
  have z1 := hw1.kept _ _ _ HBX.out (by decide) (by decide)
  have c2 := (z1.cell 2).trans rfl
  have Z1 := Lib.hid z1
  clear hw1 z1
  go_wp2_with fail
  refine (C2.out w1 E1.out H1.out.wr).mono ?_
  rintro e w2 ⟨rfl, hw2⟩
  have H2 := Lib.hid hw2
  have E2 := Lib.hid (hw2.ext E1.out)
  have z2 := hw2.kept _ _ _ Z1.out (by decide) (by decide)
  have c3 := (z2.cell 3).trans rfl
  have Z2 := Lib.hid z2
  clear hw2 z2 c2
  go_wp2_with fail
  refine (C3.out w2 E2.out H2.out.wr).mono ?_
  rintro e w3 ⟨rfl, hw3⟩
  have H3 := Lib.hid hw3
  have E3 := Lib.hid (hw3.ext E2.out)
  have z3 := hw3.kept _ _ _ Z2.out (by decide) (by decide)
  have c4 := (z3.cell 4).trans rfl
  clear hw3 z3 c3
  go_wp2_with fail
  refine (C4.out w3 E3.out H3.out.wr).mono ?_
  rintro e w4 ⟨rfl, hw4, hb4, hk4, hs4⟩
  go_wp2_with fail
  go_end0
  exact ⟨rfl, hw4, (((Below.mono E0.out E.size).trans H1.out.below).trans (H2.out.below.trans H3.out.below)).trans hb4, (((Kept.below E0.out).trans H1.out.kept).trans (H2.out.kept.trans H3.out.kept)).trans hk4, Nat.le_trans E0.out.size (Nat.le_trans H1.out.size (Nat.le_trans H2.out.size (Nat.le_trans H3.out.size hs4)))⟩
set_option maxRecDepth 100000 in
set_option maxHeartbeats 2000000 in
theorem putleaf1_calls (w0 : World) (g k : Nat) (x : Sp.W) (v : Sp.Ver) (A : Option Addr) (cap : Nat) (w : World) (E : Ext w0 w) (h : IsWr w0.heap.size g x w) (hP : Past w0 A v) (hd : v.data.length ≤ 4000000000) (hk : isBlk w k 170 #[.pointer (some ⟨g, 0, none⟩)]) (hlen : x.1.length ≤ 10000000000) :
    Calls Tryz.prog 250 #[verV A cap v, .pointer (some ⟨k, 0, none⟩)] w fun e w' => e = .returned (.tuple #[]) ∧ WTo w0.heap.size g (Sp.wver v x) w w' := by
  have e0 := Ext.alloc w (.cells (verC A cap v) 71)
  have C := Lib.hid (putver_calls w0 g x v A cap (w.alloc (.cells (verC A cap v) 71)) (E.trans e0) (h.below e0) hP hd hlen)
  have HE := Lib.hid E.size
  have z := hk.below e0
  have c0 := (z.cell 0).trans rfl
  clear h z hk hP e0
  go_enter Tryz.func250, Tryz.ntmps250
  go_wp2_with fail
  refine C.out.mono ?_
  rintro e w1 ⟨rfl, hw⟩
  have HW := Lib.hid hw
  clear hw
  go_wp2_with fail
  go_end0
  exact ⟨rfl, HW.out.wr, ((Below.refl _ w).alloc HE.out _).trans HW.out.below, (Kept.below (Ext.alloc _ _)).trans HW.out.kept, by have := HW.out.size; rw [World.size_alloc] at this; omega⟩
set_option maxRecDepth 100000 in
set_option maxHeartbeats 4000000 in
theorem listver_calls (w0 : World) (g k : Nat) (x : Sp.W) (l : List Sp.Ver) (A : Option Addr) (cap : Nat) (w : World) (E : Ext w0 w) (h : IsWr w0.heap.size g x w) (hD : Vers w0 A l) (hl : l.length ≤ 64) (hd : ∀ v ∈ l, v.data.length ≤ 48) (hk : isBlk w k 170 #[.pointer (some ⟨g, 0, none⟩)]) (hlen : x.1.length ≤ 1000000000) :
    Calls Tryz.prog 249 #[.pointer (some ⟨g, 0, none⟩), .slice A l.length cap, .func (.func 250) #[] #[.pointer (some ⟨k, 0, none⟩)]] w fun e w' => e = .returned (.tuple #[]) ∧ WTo w0.heap.size g (Sp.wvers l (Sp.wnum l.length x)) w w' := by
  have N := Lib.hid (wnum_calls w0.heap.size g x l.length w h (by omega) E.size)
  have HK := Lib.hid hk
  have hx1 := Sp.wnum_len (l.length : Int) x
  obtain ⟨y, hy⟩ : ∃ y, y = Sp.wnum (l.length : Int) x := ⟨_, rfl⟩
  rw [← hy] at N hx1 ⊢
  clear h hk hy
  go_enter Tryz.func249, Tryz.ntmps249
  go_wp2_with fail
  refine N.out.mono ?_
  rintro e w1 ⟨rfl, hw1, hb1, hk1, hs1⟩
  have W1 := Lib.hid (show WTo w0.heap.size g y w w1 from ⟨hw1, hb1, hk1, hs1⟩)
  clear hw1 hb1 hk1 hs1
  go_wp2_with fail
  go_loopw [14] (fun v14 wr => ∃ i : Nat, i ≤ l.length ∧ v14 = .int .i64 i ∧ WTo w0.heap.size g (Sp.wvers (l.take i) y) w wr) (fun v14 _ => l.length - (intOf v14).toNat)
  case atStart => exact ⟨0, Nat.zero_le _, rfl, W1.out⟩
  case round =>
    obtain ⟨i, hi, rfl, hw⟩ := hrel
    by_cases hlt : i < l.length
    · have eW := hw.ext E
      obtain ⟨ga, o, rfl, hc⟩ := hD.at (by omega)
      obtain ⟨A', c', hvc, hp⟩ := hc i hlt
      obtain ⟨c0, c1, c2, c3, c4⟩ := hvc.ext eW
      have hyl := Sp.wvers_len (l.take i) 48 (fun v hv => hd v (List.mem_of_mem_take hv)) y
      rw [List.length_take] at hyl
      have hyb : (661 + 48) * min i l.length ≤ (661 + 48) * 64 := Nat.mul_le_mul_left _ (by omega)
      have e0 := Ext.alloc wr (.cells (verC A' c' l[i]) 71)
      have hdi := hd l[i] (List.getElem_mem hlt)
      have C := Lib.hid (putleaf1_calls w0 g k (Sp.wvers (l.take i) y) l[i] A' c' (wr.alloc (.cells (verC A' c' l[i]) 71)) (eW.trans e0) (hw.wr.below e0) hp (by omega) ((hw.kept _ _ _ HK.out (by decide) (by decide)).below e0) (by omega))
      have ST := Lib.hid (show Sp.wvers (l.take (i + 1)) y = Sp.wver l[i] (Sp.wvers (l.take i) y) by rw [List.take_succ_eq_append_getElem hlt, Sp.wvers_snoc])
      have HW := Lib.hid hw
      have EW := Lib.hid eW.size
      clear hc hw eW hyl hyb hvc hp e0 hdi
      go_wp2_with (go_at_call 250; refine C.out.mono ?_; rintro e w2 ⟨rfl, hw2⟩; have H2 := Lib.hid hw2; clear hw2)
      go_roundw
      case rel =>
        refine ⟨i + 1, by omega, by go_num, by rw [ST.out]; exact H2.out.wr, ?_, ?_, ?_⟩
        · exact H2.out.below.from (HW.out.below.trans ((Below.refl _ _).alloc EW.out _))
        · exact HW.out.kept.trans ((Kept.below (Ext.alloc _ _)).trans H2.out.kept)
        · have := H2.out.size; have := HW.out.size; rw [World.size_alloc] at *; omega
      case measure => simp [intOf]; omega
    · obtain rfl : i = l.length := by omega
      rw [List.take_length] at hw
      have HW := Lib.hid hw
      clear hw
      go_wp2_with fail
      go_end0
      exact ⟨rfl, HW.out⟩
set_option maxRecDepth 100000 in
set_option maxHeartbeats 4000000 in
theorem putleaf_calls (w0 : World) (g : Nat) (x : Sp.W) (l : List Sp.Ver) (A : Option Addr) (cap : Nat) (w : World) (E : Ext w0 w) (h : IsWr w0.heap.size g x w) (hD : Vers w0 A l) (hlen : x.1.length ≤ 100000000) :
    Calls Tryz.prog 192 #[.pointer (some ⟨g, 0, none⟩), .slice A l.length cap] w fun e w' => e = .returned (.tuple #[]) ∧ WTo w0.heap.size g (Sp.wleaf l x) w w' := by
  obtain ⟨W0, hW0⟩ : ∃ W0, W0 = w.alloc (.cells #[.pointer (some ⟨g, 0, none⟩)] 170) := ⟨_, rfl⟩
  have HBX := Lib.hid (show isBlk W0 w.heap.size 170 #[.pointer (some ⟨g, 0, none⟩)] by rw [hW0]; exact box_at _ _ _)
  have E0 := Lib.hid (show Ext w W0 by rw [hW0]; exact Ext.alloc _ _)
  have HW := Lib.hid hW0.symm
  have CK := Lib.hid (leaf_calls l A cap W0 (hD.ext (E.trans E0.out)))
  have HI := Lib.hid (h.below E0.out)
  clear hW0
  by_cases hz : Sp.leaf l = 0
  · have F := Lib.hid (show Sp.wleaf l x = Sp.wvers l (Sp.wnum l.length x) from if_neg (by simpa using hz))
    have L := Lib.hid fun W (e : Ext W0 W) => listver_calls w0 g w.heap.size x l A cap W (E.trans (E0.out.trans e)) (HI.out.below e) hD (Sp.leaf_ok hz).1 (Sp.leaf_data hz) (HBX.out.below e) (by omega)
    rw [hz] at CK
    clear hz h
    go_enter Tryz.func192, Tryz.ntmps192
    go_wp2_with fail
    rw [HW.out]
    refine CK.out.mono ?_
    rintro e w1 ⟨rfl, hb1⟩
    have c0 := ((HBX.out.below hb1).cell 0).trans rfl
    have B1 := Lib.hid hb1
    clear hb1
    go_wp2_with fail
    refine (L.out w1 B1.out).mono ?_
    rintro e w2 ⟨rfl, hw2⟩
    have H2 := Lib.hid hw2
    clear hw2 c0
    go_wp2_with fail
    go_end0
    have e1 := E0.out.trans B1.out
    exact ⟨rfl, by rw [F.out]; exact H2.out.wr, (Below.mono e1 E.size).trans H2.out.below, (Kept.below e1).trans H2.out.kept, Nat.le_trans e1.size H2.out.size⟩
  · have F := Lib.hid (show Sp.wleaf l x = Sp.wfail (Sp.leaf l) x from if_pos hz)
    have L := Lib.hid fun W (e : Ext W0 W) => wfail_calls w0.heap.size g x (Sp.leaf l) W (HI.out.below e)
    have b1 : (Sp.leaf l != 0) = true := by simpa using hz
    clear hz h
    go_enter Tryz.func192, Tryz.ntmps192
    go_wp2_with fail
    rw [HW.out]
    refine CK.out.mono ?_
    rintro e w1 ⟨rfl, hb1⟩
    have c0 := ((HBX.out.below hb1).cell 0).trans rfl
    have B1 := Lib.hid hb1
    clear hb1
    go_wp2_with fail
    refine (L.out w1 B1.out).mono ?_
    rintro e w2 ⟨rfl, hw2, hb2, hk2, hs2⟩
    go_wp2_with fail
    refine bodyPost_ret (results_none rfl _ _ _) rfl ?_
    have e1 := E0.out.trans B1.out
    exact ⟨rfl, by rw [F.out]; exact hw2, (Below.mono e1 E.size).trans hb2, (Kept.below e1).trans hk2, Nat.le_trans e1.size hs2⟩
end Go.Proofs.YtmlfnidckfeebaaGreatDoor
