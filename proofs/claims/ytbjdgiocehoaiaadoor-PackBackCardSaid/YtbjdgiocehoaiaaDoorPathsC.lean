/- Walks: which of two paths stands ahead. -/
import Derived.Test.YtbjdgiocehoaiaaDoorPathsR
import Derived.Test.YtbjdgiocehoaiaaDoorRegion
import Derived.Scope
namespace Go.Proofs.YtbjdgiocehoaiaaDoor
open Go.RowKit
namespace Sp
/-- Pieces that are compared, one after the other. -/
def cmpP : List Bs → List Bs → Int
  | [], [] => 0
  | [], _ :: _ => -1
  | _ :: _, [] => 1
  | a :: l, b :: m => if a = b then cmpP l m else Lib.compareBytes a b
def compare (s t : Bs) : Int := cmpP (split s) (split t)
theorem cmpB_range : ∀ (a b : Bs), Lib.compareBytes a b = -1 ∨ Lib.compareBytes a b = 0 ∨ Lib.compareBytes a b = 1
  | [], [] => .inr (.inl rfl)
  | [], _ :: _ => .inl rfl
  | _ :: _, [] => .inr (.inr rfl)
  | a :: l, b :: m => by
    unfold Lib.compareBytes
    split
    · simp
    · split
      · simp
      · exact cmpB_range l m
theorem cmpB_eq : ∀ (a b : Bs), Lib.compareBytes a b = 0 ↔ a = b
  | [], [] => by simp [Lib.compareBytes]
  | [], _ :: _ => by simp [Lib.compareBytes]
  | _ :: _, [] => by simp [Lib.compareBytes]
  | a :: l, b :: m => by
    unfold Lib.compareBytes
    split
    · rename_i h; simp; rintro rfl; exact absurd h (UInt8.lt_irrefl _)
    · split
      · rename_i h; simp; rintro rfl; exact absurd h (UInt8.lt_irrefl _)
      · rename_i h1 h2
        have : a = b := UInt8.le_antisymm (UInt8.not_lt.1 h2) (UInt8.not_lt.1 h1)
        rw [cmpB_eq l m, List.cons.injEq]; simp [this]
theorem cmpP_range : ∀ (l m : List Bs), cmpP l m = -1 ∨ cmpP l m = 0 ∨ cmpP l m = 1
  | [], [] => .inr (.inl rfl)
  | [], _ :: _ => .inl rfl
  | _ :: _, [] => .inr (.inr rfl)
  | a :: l, b :: m => by
    unfold cmpP
    split
    · exact cmpP_range l m
    · exact cmpB_range a b
theorem cmpP_end (l m : List Bs) (h : l = [] ∨ m = []) : cmpP l m = max (-1) (min 1 ((l.length : Int) - m.length)) := by
  cases l with
  | nil => cases m with
    | nil => rfl
    | cons b m => simp [cmpP]; omega
  | cons a l => cases m with
    | nil => simp [cmpP]; omega
    | cons b m => simp at h
theorem cmpP_step (L M : List ByteArray) (k : Nat) (hl : k < L.length) (hm : k < M.length) : cmpP ((L.map (·.data.toList)).drop k) ((M.map (·.data.toList)).drop k) =
    if L[k].data.toList = M[k].data.toList then cmpP ((L.map (·.data.toList)).drop (k + 1)) ((M.map (·.data.toList)).drop (k + 1)) else Lib.compareBytes L[k].data.toList M[k].data.toList := by
  rw [List.drop_eq_getElem_cons (by simpa using hl), List.drop_eq_getElem_cons (i := k) (l := M.map (·.data.toList)) (by simpa using hm), cmpP]
  simp
end Sp
set_option maxRecDepth 100000 in
set_option maxHeartbeats 2000000 in
theorem compare_calls (s t : ByteArray) (w : World) (hsh : ∃ m, w.cell? ⟨0, 0, none⟩ = some (.int .i64 m)) (hs : s.size < 4294967200) (ht : t.size < 4294967200) :
    Calls Tryd.prog 53 #[.string s, .string t] w fun e w' => e = .returned (.int .i64 (Sp.compare s.data.toList t.data.toList)) ∧ Below w.heap.size w w' := by
  have S1 := Lib.hid (split_calls s w hsh (by omega))
  have S2 := Lib.hid fun w1 hb1 => split_calls t w1 (max_kept hsh (w1 := w1) hb1) (by omega)
  clear hsh
  go_enter Tryd.func53, Tryd.ntmps53
  go_wp2_with fail
  refine wp_scope_straight ?_
  go_wp2_with (first
    | (refine wp_label ?_)
    | (go_at_call 26; with_reducible refine S1.out.mono ?_; rintro e w1 ⟨g1, L, rfl, hL, hS1, hb1, hg1, hn1⟩; have HS1 := Lib.hid hS1; have HL := Lib.hid hL; clear hL hS1 S1)
    | (go_at_call 26; refine (S2.out _ hb1).mono ?_; rintro e w2 ⟨g2, M, rfl, hM, hS2, hb2, hg2, hn2⟩; have HS2 := Lib.hid hS2; have HM := Lib.hid hM; clear hM hS2 S2))
  have hbb : Below w.heap.size w w2 := hb1.trans (hb2.mono hb1.size)
  have HC : ∀ k, (h : k < L.length) → w2.cell? ⟨g1, k, none⟩ = some (.string L[k]) := HS1.out.below hb2
  have CD := Lib.hid (show Sp.compare s.data.toList t.data.toList = Sp.cmpP ((L.map (·.data.toList)).drop 0) ((M.map (·.data.toList)).drop 0) by rw [HL.out, HM.out]; rfl)
  have CS := Lib.hid fun k h1 h2 => Sp.cmpP_step L M k h1 h2
  have CE := Lib.hid fun k (h : k = L.length ∨ k = M.length) => Sp.cmpP_end ((L.map (·.data.toList)).drop k) ((M.map (·.data.toList)).drop k) (by
    rcases h with h | h
    · exact .inl (List.drop_eq_nil_of_le (by simp; omega))
    · exact .inr (List.drop_eq_nil_of_le (by simp; omega)))
  go_loopw [7, 21] (fun v7 v21 wr => ∃ k : Nat, k ≤ L.length ∧ k ≤ M.length ∧ v7 = .int .i64 ((L.length : Int) - (M.length : Int)) ∧ v21 = .int .i64 k ∧ Sp.compare s.data.toList t.data.toList = Sp.cmpP ((L.map (·.data.toList)).drop k) ((M.map (·.data.toList)).drop k) ∧ w2 = wr) (fun _ v21 _ => L.length - (intOf v21).toNat)
  case atStart => exact ⟨0, Nat.zero_le _, Nat.zero_le _, by first | rfl | go_num, rfl, CD.out, rfl⟩
  case round =>
    obtain ⟨k, hk, hk2, rfl, rfl, hc, rfl⟩ := hrel
    by_cases hlt : k < L.length ∧ k < M.length
    · obtain ⟨hl, hm⟩ := hlt
      have c1 := HC k hl
      have c2 : w2.cell? ⟨g2, k, none⟩ = some (.string M[k]) := HS2.out k hm
      have st := CS.out k hl hm
      by_cases he : L[k].data.toList = M[k].data.toList
      · rw [if_pos he] at st
        have b1 : (L[k].toList == M[k].toList) = true := by rw [toList_data, toList_data, he]; simp
        have HCC := Lib.hid (hc.trans st)
        clear hc st he HC
        go_wp2_with fail
        go_roundw
        case rel => exact ⟨k + 1, by omega, by omega, rfl, by go_num, HCC.out, trivial⟩
        case measure => simp [intOf]; omega
      · rw [if_neg he] at st
        have b1 : (L[k].toList == M[k].toList) = false := by rw [toList_data, toList_data]; simpa using he
        have HCC := Lib.hid (hc.trans st)
        have rg := Sp.cmpB_range L[k].data.toList M[k].data.toList
        obtain ⟨x, hx⟩ : ∃ x, x = Lib.compareBytes L[k].data.toList M[k].data.toList := ⟨_, rfl⟩
        have SC := Lib.hid (Tryd.strings_Compare L[k] M[k] w2)
        rw [← hx] at SC rg HCC
        have m1 : min (1 : Int) x = x := by omega
        have m2 : max (-1 : Int) x = x := by omega
        clear hc st he HC hx
        go_wp2_with (go_at_call 77; refine SC.out.mono ?_; rintro e w3 ⟨rfl, rfl⟩)
        try dsimp only [Exit.noGoto]
        go_wp2_with fail
        go_ret
        exact ⟨by rw [HCC.out]; rfl, hbb⟩
    · have ce := CE.out k (by omega)
      simp only [List.length_drop, List.length_map] at ce
      have m1 : min (1 : Int) ((L.length : Int) - (M.length : Int)) = min 1 (((L.length - k : Nat) : Int) - ((M.length - k : Nat) : Int)) := by omega
      obtain ⟨y, hy⟩ : ∃ y, y = min 1 (((L.length - k : Nat) : Int) - ((M.length - k : Nat) : Int)) := ⟨_, rfl⟩
      rw [← hy] at m1 ce
      obtain ⟨z, hz⟩ : ∃ z, z = max (-1 : Int) y := ⟨_, rfl⟩
      have m2 : max (-1 : Int) y = z := hz.symm
      rw [← hz] at ce
      have HCC := Lib.hid (hc.trans ce)
      clear hc ce hy hz
      by_cases hl : k < L.length
      · obtain rfl : k = M.length := by omega
        have c1 := HC M.length hl
        clear hlt HC
        go_wp2_with fail
        try dsimp only [Exit.noGoto]
        go_wp2_with fail
        go_ret
        exact ⟨by rw [HCC.out]; rfl, hbb⟩
      · obtain rfl : k = L.length := by omega
        clear hlt HC
        go_wp2_with fail
        try dsimp only [Exit.noGoto]
        go_wp2_with fail
        go_ret
        exact ⟨by rw [HCC.out]; rfl, hbb⟩
set_option maxRecDepth 100000 in
set_option maxHeartbeats 2000000 in
theorem pcheck_calls (s : ByteArray) (w : World) (hsh : ∃ m, w.cell? ⟨0, 0, none⟩ = some (.int .i64 m)) :
    Calls Tryd.prog 52 #[.string s] w fun e w' => e = .returned (.int .i64 (Sp.check s.data.toList)) ∧ Below w.heap.size w w' := by
  obtain ⟨n, hn⟩ : ∃ n, n = (Sp.parts s.data.toList).length := ⟨_, rfl⟩
  have P := Lib.hid (show Calls Tryd.prog 33 #[.string s] w fun e w' => ∃ A cap, e = .returned (.slice A n cap) ∧ Below w.heap.size w w' from (parts_calls s w hsh).mono (by
    rintro e w1 ⟨hb1, (⟨h0, rfl⟩ | ⟨g, cap, L, hl0, hlc, rfl, hL, hS, hg⟩)⟩
    · rw [h0] at hn; subst hn; exact ⟨_, _, rfl, hb1⟩
    · rw [← hL, List.length_map] at hn; subst hn; exact ⟨_, _, rfl, hb1⟩))
  have hdl : s.data.toList.length = s.size := by simp
  clear hsh
  by_cases h51 : 51 < s.size
  · have F := Lib.hid (show Sp.check s.data.toList = 2 by unfold Sp.check; rw [hdl, if_pos h51])
    have e1 : decide ((51 : Int) < (s.size : Int)) = true := by rw [decide_eq_true_iff]; omega
    clear hdl
    go_enter Tryd.func52, Tryd.ntmps52
    go_wp2_with fail
    go_ret
    exact ⟨by rw [F.out]; rfl, Below.refl _ _⟩
  · have F := Lib.hid (show Sp.check s.data.toList = if n = 0 then 1 else 0 by unfold Sp.check; rw [hdl, if_neg h51, hn])
    have e1 : decide ((51 : Int) < (s.size : Int)) = false := by rw [decide_eq_false_iff_not]; omega
    clear hdl hn
    by_cases h0 : n = 0
    · rw [if_pos h0] at F
      have b0 : ((n : Int) == 0) = true := by rw [h0]; rfl
      clear h0
      go_enter Tryd.func52, Tryd.ntmps52
      go_wp2_with (go_at_call 33; refine P.out.mono ?_; rintro e w1 ⟨A, cap, rfl, hb1⟩)
      go_ret
      exact ⟨by rw [F.out]; rfl, hb1⟩
    · rw [if_neg h0] at F
      have b0 : ((n : Int) == 0) = false := by rw [beq_eq_false_iff_ne]; omega
      clear h0
      go_enter Tryd.func52, Tryd.ntmps52
      go_wp2_with (go_at_call 33; refine P.out.mono ?_; rintro e w1 ⟨A, cap, rfl, hb1⟩)
      go_ret
      exact ⟨by rw [F.out]; rfl, hb1⟩
end Go.Proofs.YtbjdgiocehoaiaaDoor
