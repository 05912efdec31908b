/- Walks: a coder.Writer's methods. Walks: what a coder.Writer has put. Walks: the reference's writer, and its reader. -/
import Derived.Test.YtmlkachfahabnaaGreatDoorTA03
namespace Go.Proofs.YtmlkachfahabnaaGreatDoor
open Go.RowKit
namespace Sp
/-- A writer is what was put, and what is wrong. -/
abbrev W := List UInt8 × Int
def wput (is : Bool) (s : List UInt8) (x : W) : W := if x.2 ≠ 0 then x else if is then (x.1 ++ s, 0) else (x.1, 2)
def wnum (n : Int) (x : W) : W := wput (decide (0 ≤ n ∧ n ≤ 1073741824)) (put n) x
def wtext (s : List UInt8) (x : W) : W := wput (decide (s.length ≤ 65536)) (put s.length ++ s) x
def wfail (e : Int) (x : W) : W := if x.2 = 0 then (x.1, e) else x
def wdone (x : W) : W := if x.2 = 0 then (x.1, 0) else ([], x.2)
theorem wput_len (is : Bool) (s : List UInt8) (x : W) : (wput is s x).1.length ≤ x.1.length + s.length := by
  unfold wput; split
  · omega
  · split
    · simp
    · simp
theorem wnum_len (n : Int) (x : W) : (wnum n x).1.length ≤ x.1.length + 5 := by have := wput_len (decide (0 ≤ n ∧ n ≤ 1073741824)) (put n) x; have := put_len n; unfold wnum; omega
theorem wtext_len (s : List UInt8) (x : W) : (wtext s x).1.length ≤ x.1.length + (5 + s.length) := by
  have := wput_len (decide (s.length ≤ 65536)) (put s.length ++ s) x; have := put_len (s.length : Int); unfold wtext; rw [List.length_append] at *; omega
theorem wfail_len (e : Int) (x : W) : (wfail e x).1.length = x.1.length := by unfold wfail; split <;> rfl
end Sp
/-- A writer in memory is such. -/
abbrev IsWr (B g : Nat) (x : Sp.W) (w : World) : Prop := IsW B g x.1 x.2 w
theorem IsW.lt {B g : Nat} {l : List UInt8} {e : Int} {w : World} (h : IsW B g l e w) : g < w.heap.size := by
  obtain ⟨_, p, v, _, hb, _⟩ := h; exact hb.lt
theorem IsW.below {B g : Nat} {l : List UInt8} {e : Int} {w w' : World} (h : IsW B g l e w) (hb : Below w.heap.size w w') : IsW B g l e w' := by
  obtain ⟨h1, p, v, hp, hblk, hown, hne⟩ := h
  refine ⟨h1, p, v, hp, hblk.below hb, ?_, hne⟩
  refine ⟨hown.1, ?_⟩
  rcases hown.2 with hn | ⟨g', cap', cur, hv, hbg, hgg, rest⟩
  · exact .inl hn
  · exact .inr ⟨g', cap', cur, hv, hbg, (hb.block _ (Array.getElem?_eq_some_iff.1 hgg).1).trans hgg, rest⟩
/-- What is wrong is written down. -/
theorem IsW.err {B g : Nat} {l : List UInt8} {e : Int} {w : World} (h : IsW B g l e w) (e' : Int) : IsW B g l e' (w.setCell ⟨g, 2, none⟩ (.int .i64 e')) := by
  obtain ⟨h1, p, v, hp, hblk, hown, hne⟩ := h
  exact ⟨h1, p, v, hp, hblk.put 2 _ rfl, own_far hown hne _, hne⟩
theorem IsW.kept {B g : Nat} {l : List UInt8} {e : Int} {w : World} (h : IsW B g l e w) (i : Nat) (u : Value) : Kept w (w.setCell ⟨g, i, none⟩ u) := by
  obtain ⟨h1, p, v, hp, hblk, hown, hne⟩ := h
  exact Kept.set hblk i u
theorem IsW.cell {B g : Nat} {l : List UInt8} {e : Int} {w : World} (h : IsW B g l e w) : w.cell? ⟨g, 2, none⟩ = some (.int .i64 e) ∧ w.frozen? ⟨g, 2, none⟩ = false := by
  obtain ⟨h1, p, v, hp, hblk, hown, hne⟩ := h
  exact ⟨(hblk.cell 2).trans rfl, hblk.frozen 2⟩
set_option maxRecDepth 100000 in
set_option maxHeartbeats 2000000 in
theorem wfail_calls (B g : Nat) (x : Sp.W) (e : Int) (w : World) (h : IsWr B g x w) :
    Calls Tryz.prog 151 #[.pointer (some ⟨g, 0, none⟩), .int .i64 e] w fun e' w' => e' = .returned (.tuple #[]) ∧ IsWr B g (Sp.wfail e x) w' ∧ Below B w w' ∧ Kept w w' ∧ w.heap.size ≤ w'.heap.size := by
  obtain ⟨c2, f2⟩ := h.cell
  have hB := h.1
  by_cases h0 : x.2 = 0
  · have F := Lib.hid (show Sp.wfail e x = (x.1, e) from if_pos h0)
    have IW := Lib.hid (h.err e)
    have KK := Lib.hid (h.kept 2 (.int .i64 e))
    rw [h0] at c2
    clear h h0
    go_enter Tryz.func151, Tryz.ntmps151
    go_wp2_with fail
    go_end0
    exact ⟨rfl, by rw [F.out]; exact IW.out, (Below.refl _ _).setCell hB _, KK.out, by simp⟩
  · have F := Lib.hid (show Sp.wfail e x = x from if_neg h0)
    have e1 : (x.2 == 0) = false := by simpa using h0
    have H := Lib.hid h
    clear h h0
    go_enter Tryz.func151, Tryz.ntmps151
    go_wp2_with fail
    go_end0
    exact ⟨rfl, by rw [F.out]; exact H.out, Below.refl _ _, Kept.refl _, Nat.le_refl _⟩
set_option maxRecDepth 100000 in
set_option maxHeartbeats 2000000 in
theorem wput_calls (B g k : Nat) (x : Sp.W) (is : Bool) (ss : List ByteArray) (w : World) (h : IsWr B g x w) (hk : isBlk w k 9 (ss.map Value.string).toArray) (hlen : x.1.length + (ss.flatMap (fun s => s.data.toList)).length ≤ 140737488355328) (hBw : B ≤ w.heap.size) (hss : ss.length ≤ 100) :
    Calls Tryz.prog 156 #[.pointer (some ⟨g, 0, none⟩), .bool is, .slice (some ⟨k, 0, none⟩) ss.length ss.length] w fun e' w' =>
      e' = .returned (.tuple #[]) ∧ IsWr B g (Sp.wput is (ss.flatMap (fun s => s.data.toList)) x) w' ∧ Below B w w' ∧ Kept w w' ∧ w.heap.size ≤ w'.heap.size := by
  obtain ⟨c2, f2⟩ := h.cell
  have hB := h.1
  by_cases h0 : x.2 = 0
  · rw [h0] at c2
    cases is with
    | false =>
      have F := Lib.hid (show Sp.wput false (ss.flatMap (fun s => s.data.toList)) x = (x.1, 2) by unfold Sp.wput; rw [if_neg (by simp [h0])]; rfl)
      have IW := Lib.hid (h.err 2)
      have KK := Lib.hid (h.kept 2 (.int .i64 2))
      clear h h0
      go_enter Tryz.func156, Tryz.ntmps156
      go_wp2_with fail
      go_end0
      exact ⟨rfl, by rw [F.out]; exact IW.out, (Below.refl _ _).setCell hB _, KK.out, by simp⟩
    | true =>
      have F := Lib.hid (show Sp.wput true (ss.flatMap (fun s => s.data.toList)) x = (x.1 ++ ss.flatMap (fun s => s.data.toList), 0) by unfold Sp.wput; rw [if_neg (by simp [h0])]; rfl)
      have H := Lib.hid (show IsW B g x.1 0 w by rw [← h0]; exact h)
      clear h h0
      go_enter Tryz.func156, Tryz.ntmps156
      go_wp2_with fail
      go_loopw [10] (fun v10 wr => ∃ i : Nat, i ≤ ss.length ∧ v10 = .int .i64 i ∧ IsWr B g (x.1 ++ (ss.take i).flatMap (fun s => s.data.toList), 0) wr ∧ Below B w wr ∧ Kept w wr ∧ w.heap.size ≤ wr.heap.size) (fun v10 _ => ss.length - (intOf v10).toNat)
      case atStart => exact ⟨0, Nat.zero_le _, rfl, by simpa using H.out, Below.refl _ _, Kept.refl _, Nat.le_refl _⟩
      case round =>
        obtain ⟨i, hi, rfl, hw, hb, hkp, hsz⟩ := hrel
        have hk' := hkp k _ _ hk (by decide) (by decide)
        by_cases hlt : i < ss.length
        · have q1 : decide ((i : Int) < (ss.length : Int)) = true := by rw [decide_eq_true_iff]; omega
          have ci : wr.cell? ⟨k, i, none⟩ = some (.string ss[i]) := by rw [hk'.at i (by simpa using hlt)]; simp
          have hl2 : (x.1 ++ (ss.take i).flatMap (fun s => s.data.toList)).length + ss[i].size ≤ 140737488355328 := by
            have e : ss.flatMap (fun s => s.data.toList) = (ss.take i).flatMap (fun s => s.data.toList) ++ (ss[i].data.toList ++ (ss.drop (i + 1)).flatMap (fun s => s.data.toList)) := by
              conv => lhs; rw [← List.take_append_drop i ss, List.drop_eq_getElem_cons hlt, List.flatMap_append, List.flatMap_cons]
            rw [e] at hlen
            simp only [List.length_append, show ss[i].data.toList.length = ss[i].size by simp] at hlen ⊢
            omega
          have e3 : ((ss.take (i + 1)).flatMap fun s => s.data.toList) = (ss.take i).flatMap (fun s => s.data.toList) ++ ss[i].data.toList := by
            rw [List.take_add_one, List.getElem?_eq_getElem hlt, Option.toList_some, List.flatMap_append]; simp
          have E3 := Lib.hid e3
          have C := Lib.hid (ws_calls B g _ 0 ss[i] wr hw hl2 (by omega))
          have WSZ := Lib.hid hsz
          clear hl2 e3 c2 f2 hlen hw
          go_wp2_with (go_at_call 105; refine C.out.mono ?_; rintro e w1 ⟨rfl, hw1, hb1, hk1⟩)
          go_roundw
          case rel => exact ⟨i + 1, by omega, by go_num, by rw [E3.out, ← List.append_assoc]; exact hw1, hb.trans hb1, hkp.trans hk1, Nat.le_trans WSZ.out hb1.size⟩
          case measure => simp [intOf]; omega
        · have q1 : decide ((i : Int) < (ss.length : Int)) = false := by rw [decide_eq_false_iff_not]; omega
          obtain rfl : i = ss.length := by omega
          rw [List.take_length] at hw
          have HW := Lib.hid hw
          clear hw c2 f2 hlen
          go_wp2_with fail
          go_end0
          exact ⟨rfl, by rw [F.out]; exact HW.out, hb, hkp, hsz⟩
  · have F := Lib.hid (show Sp.wput is (ss.flatMap (fun s => s.data.toList)) x = x by unfold Sp.wput; rw [if_pos (by simpa using h0)])
    have e1 : (x.2 == 0) = false := by simpa using h0
    have H := Lib.hid h
    clear h h0
    go_enter Tryz.func156, Tryz.ntmps156
    go_wp2_with fail
    go_end0
    exact ⟨rfl, by rw [F.out]; exact H.out, Below.refl _ _, Kept.refl _, Nat.le_refl _⟩
set_option maxRecDepth 100000 in
set_option maxHeartbeats 2000000 in
theorem wnum_calls (B g : Nat) (x : Sp.W) (n : Int) (w : World) (h : IsWr B g x w) (hlen : x.1.length ≤ 100000000000000) (hBw : B ≤ w.heap.size) :
    Calls Tryz.prog 128 #[.pointer (some ⟨g, 0, none⟩), .int .i64 n] w fun e' w' => e' = .returned (.tuple #[]) ∧ IsWr B g (Sp.wnum n x) w' ∧ Below B w w' ∧ Kept w w' ∧ w.heap.size ≤ w'.heap.size := by
  have P := Lib.hid (cput_calls n w)
  have hp := Sp.put_len n
  obtain ⟨l, hl⟩ : ∃ l, l = Sp.put n := ⟨_, rfl⟩
  have e1 : (!l.isEmpty) = decide (0 ≤ n ∧ n ≤ 1073741824) := by
    rw [hl]; have := Sp.put_ne (n := n)
    by_cases h1 : 0 ≤ n ∧ n ≤ 1073741824
    · rw [decide_eq_true h1]; have := this.2 h1; simpa using this
    · rw [decide_eq_false h1]; have h2 : ¬ _ := fun a => h1 (this.1 a); simpa using h2
  have e2 := strOf_toList l
  rw [← hl] at P hp
  have F := Lib.hid (show Sp.wnum n x = Sp.wput (decide (0 ≤ n ∧ n ≤ 1073741824)) l x by rw [hl]; rfl)
  clear hl
  have PU := Lib.hid fun (W : World) (hb : Below w.heap.size w W) =>
    wput_calls B g W.heap.size x (decide (0 ≤ n ∧ n ≤ 1073741824)) [strOf l] (W.alloc (.cells #[.string (strOf l)] 9)) ((h.below hb).below ((Below.refl _ _).alloc (Nat.le_refl _) _)) (heap_alloc_new _ _) (by simp; omega) (by have := hb.size; simp; omega) (by simp)
  have HB := Lib.hid hBw
  obtain ⟨b, hb⟩ : ∃ b, b = decide (0 ≤ n ∧ n ≤ 1073741824) := ⟨_, rfl⟩
  rw [← hb] at e1 F PU
  clear h hBw hb
  go_enter Tryz.func128, Tryz.ntmps128
  go_wp2_with (first
    | (go_at_call 155; refine P.out.mono ?_; rintro e w1 ⟨rfl, hb1⟩)
    | (go_at_call 156; refine (PU.out w1 hb1).mono ?_; rintro e w2 ⟨rfl, hw2, hb2, hk2, hs2⟩))
  go_end0
  have h1 : Below B w (w1.alloc (.cells #[.string (strOf l)] 9)) := (hb1.mono HB.out).alloc (Nat.le_trans HB.out hb1.size) _
  refine ⟨rfl, ?_, h1.trans hb2, ((Kept.below hb1).trans (Kept.below ((Below.refl _ _).alloc (Nat.le_refl _) _))).trans hk2, ?_⟩
  · rw [F.out]; simpa using hw2
  · have := hb1.size; have := HB.out; rw [World.size_alloc] at hs2; omega
set_option maxRecDepth 100000 in
set_option maxHeartbeats 2000000 in
theorem wtext_calls (B g : Nat) (x : Sp.W) (s : ByteArray) (w : World) (h : IsWr B g x w) (hlen : x.1.length ≤ 100000000000000) (hs : s.size < 4294967200) (hBw : B ≤ w.heap.size) :
    Calls Tryz.prog 129 #[.pointer (some ⟨g, 0, none⟩), .string s] w fun e' w' => e' = .returned (.tuple #[]) ∧ IsWr B g (Sp.wtext s.data.toList x) w' ∧ Below B w w' ∧ Kept w w' ∧ w.heap.size ≤ w'.heap.size := by
  have P := Lib.hid (cput_calls (s.size : Int) w)
  have hp := Sp.put_len (s.size : Int)
  obtain ⟨l, hl⟩ : ∃ l, l = Sp.put (s.size : Int) := ⟨_, rfl⟩
  rw [← hl] at P hp
  have hdl : s.data.toList.length = s.size := by simp
  have F := Lib.hid (show Sp.wtext s.data.toList x = Sp.wput (decide ((s.size : Int) ≤ 65536)) (l ++ s.data.toList) x by
    unfold Sp.wtext; rw [hl, hdl, show decide ((s.size : Int) ≤ 65536) = decide (s.size ≤ 65536) by rw [decide_eq_decide]; omega])
  clear hl
  have PU := Lib.hid fun (W : World) (hb : Below w.heap.size w W) =>
    wput_calls B g W.heap.size x (decide ((s.size : Int) ≤ 65536)) [strOf l, s] (W.alloc (.cells #[.string (strOf l), .string s] 9)) ((h.below hb).below ((Below.refl _ _).alloc (Nat.le_refl _) _)) (heap_alloc_new _ _) (by simp; omega) (by have := hb.size; simp; omega) (by simp)
  have HB := Lib.hid hBw
  obtain ⟨b, hb⟩ : ∃ b, decide ((s.size : Int) ≤ 65536) = b := ⟨_, rfl⟩
  rw [hb] at F PU
  clear h hBw hdl
  go_enter Tryz.func129, Tryz.ntmps129
  go_wp2_with (first
    | (go_at_call 155; refine P.out.mono ?_; rintro e w1 ⟨rfl, hb1⟩)
    | (go_at_call 156; refine (PU.out w1 hb1).mono ?_; rintro e w2 ⟨rfl, hw2, hb2, hk2, hs2⟩))
  go_end0
  have h1 : Below B w (w1.alloc (.cells #[.string (strOf l), .string s] 9)) := (hb1.mono HB.out).alloc (Nat.le_trans HB.out hb1.size) _
  refine ⟨rfl, ?_, h1.trans hb2, ((Kept.below hb1).trans (Kept.below ((Below.refl _ _).alloc (Nat.le_refl _) _))).trans hk2, ?_⟩
  · rw [F.out]; simpa using hw2
  · have := hb1.size; have := HB.out; rw [World.size_alloc] at hs2; omega
end Go.Proofs.YtmlkachfahabnaaGreatDoor
namespace Go.Proofs.YtmlkachfahabnaaGreatDoor
open Go.RowKit
set_option maxRecDepth 100000 in
set_option maxHeartbeats 1000000 in
theorem bstr_calls (B g : Nat) (l : List UInt8) (e : Int) (w : World) (h : IsW B g l e w) (h0 : l ≠ []) :
    Calls Tryz.prog 106 #[.pointer (some ⟨g, 0, none⟩)] w fun e' w' => e' = .returned (.string (strOf l)) ∧ Below B w w' := by
  obtain ⟨hB, p, v, hp, hblk, hown, hne⟩ := h
  have hl0 : l.length ≠ 0 := by simpa using h0
  obtain ⟨k, cap, cur, rfl, hbg, hg, hnc, hcm, hcs, htake⟩ : ∃ k cap cur, v = .slice (some ⟨k, 0, none⟩) l.length cap ∧ B ≤ k ∧ w.heap[k]? = some (.cells cur 5 (0, 0)) ∧ l.length ≤ cap ∧ cap ≤ maxLen ∧ cur.size = cap * 1 ∧ cur.toList.take (l.length * 1) = l.map byteV := by
    rcases hown.2 with ⟨_, hz⟩ | ⟨k, cap, cur, hv, r⟩
    · exact absurd hz hl0
    · exact ⟨k, cap, cur, hv, r⟩
  have c1 : w.drew.cell? ⟨g, 1, none⟩ = some (.slice (some ⟨k, 0, none⟩) l.length cap) := (hblk.cell 1).trans rfl
  have hSD : (Builtin.unsafeSliceData_ #[84] 159 #[.slice (some ⟨k, 0, none⟩) l.length cap]).run Tryz.prog w.drew = .ok (.pointer (some ⟨k, 0, none⟩)) w.drew :=
    Lib.run_unsafeSliceData_row _ _ _ _ _ _ (by omega)
  have hUS : (Builtin.unsafeString_ #[159, 3] 9 #[.pointer (some ⟨k, 0, none⟩), .int .i64 l.length]).run Tryz.prog w.drew = .ok (.string (strOf l)) (w.drew.freeze ⟨k, 0, none⟩ l.length) := by
    refine Lib.run_unsafeString_row w.drew 159 3 9 5 Tryz.underlying159 (by kernel_rfl) k cur.size (by have hg' : w.drew.heap[k]? = some (.cells cur 5 (0, 0)) := hg; simp [World.shape?, hg']) l h0 (by omega) (by unfold maxLen at hcm; omega) ?_
    intro j x hx
    have := hown.cells (g := k) rfl j (.int .u8 x.toNat) (by simp [byteV, hx])
    exact this
  clear hown hp htake hcs hcm hnc
  have HG := Lib.hid hg
  clear hg h0 hl0 hblk hne
  go_enter Tryz.func106, Tryz.ntmps106
  go_wp2
  have mixed : Tryz.prog.follows .mixedOrders = true := by kernel_rfl
  go_region_o
  all_goals (go_wp2; go_ret; exact ⟨rfl, Lib.below_freeze (Below.drew (Below.refl B w)) (p := ⟨k, 0, none⟩) hbg _⟩)
set_option maxRecDepth 100000 in
set_option maxHeartbeats 1000000 in
theorem wdone_calls (B g : Nat) (x : Sp.W) (w : World) (h : IsWr B g x w) (h0 : x.2 = 0 → x.1 ≠ []) :
    Calls Tryz.prog 131 #[.pointer (some ⟨g, 0, none⟩)] w fun e' w' => e' = .returned (.tuple #[.string (strOf (Sp.wdone x).1), .int .i64 (Sp.wdone x).2]) ∧ Below B w w' := by
  obtain ⟨c2, f2⟩ := h.cell
  by_cases h1 : x.2 = 0
  · have F := Lib.hid (show Sp.wdone x = (x.1, 0) from if_pos h1)
    have C := Lib.hid (bstr_calls B g x.1 x.2 w h (h0 h1))
    rw [h1] at c2
    clear h h0 h1
    go_enter Tryz.func131, Tryz.ntmps131
    go_wp2_with (go_at_call 106; refine C.out.mono ?_; rintro e w1 ⟨rfl, hb1⟩)
    go_ret2
    exact ⟨by rw [F.out]; rfl, hb1⟩
  · have F := Lib.hid (show Sp.wdone x = ([], x.2) from if_neg h1)
    have e1 : (x.2 == 0) = false := by simpa using h1
    clear h h0 h1
    go_enter Tryz.func131, Tryz.ntmps131
    go_wp2_with fail
    have mixed : Tryz.prog.follows .mixedOrders = true := by kernel_rfl
    go_region_o
    all_goals
      go_wp2_with fail
      go_ret2
      exact ⟨by rw [F.out]; rfl, (Below.refl _ _).drew⟩
end Go.Proofs.YtmlkachfahabnaaGreatDoor
namespace Go.Proofs.YtmlkachfahabnaaGreatDoor
open Go.RowKit
/-- What was there is as it was, but for one block. -/
structure Only (g : Nat) (w w' : World) : Prop where
  os : w'.os = w.os
  tape : w'.tape = w.tape
  output : w'.output = w.output
  size : w.heap.size ≤ w'.heap.size
  block : ∀ k, k < w.heap.size → k ≠ g → w'.heap[k]? = w.heap[k]?
theorem Only.refl (g : Nat) (w : World) : Only g w w := ⟨rfl, rfl, rfl, Nat.le_refl _, fun _ _ _ => rfl⟩
theorem Only.of_below {w w' : World} (g : Nat) (h : Below w.heap.size w w') : Only g w w' := ⟨h.os, h.tape, h.output, h.size, fun k hk _ => h.block k hk⟩
theorem Only.trans {g : Nat} {a b c : World} (h : Only g a b) (k : Only g b c) : Only g a c :=
  ⟨k.os.trans h.os, k.tape.trans h.tape, k.output.trans h.output, Nat.le_trans h.size k.size, fun j hj hn => (k.block j (Nat.lt_of_lt_of_le hj h.size) hn).trans (h.block j hj hn)⟩
theorem Only.below {g B : Nat} {w w' : World} (h : Only g w w') (hB : B ≤ g) (hw : B ≤ w.heap.size) : Below B w w' :=
  ⟨h.os, h.tape, h.output, h.size, fun k hk => h.block k (by omega) (by omega)⟩
theorem Only.blk {g k t : Nat} {cs : Array Value} {w w' : World} (h : Only g w w') (hk : isBlk w k t cs) (hn : k ≠ g) : isBlk w' k t cs := (h.block k hk.lt hn).trans hk
theorem Only.set (g j : Nat) (u : Value) (w : World) : Only g w (w.setCell ⟨g, j, none⟩ u) := ⟨rfl, rfl, rfl, by simp, fun k _ hn => Below.heap_setCell _ _ _ _ hn⟩
theorem Only.drew {g : Nat} {w w' : World} (h : Only g w w') : Only g w w'.drew := ⟨h.os, h.tape, h.output, h.size, h.block⟩
/-- The reference's writer in memory. -/
abbrev isRW (w : World) (g : Nat) (x : Sp.W) : Prop := isBlk w g 98 #[.string (strOf x.1), .int .i64 x.2]
theorem isRW.set (x : Sp.W) (w : World) (g : Nat) (h : isRW w g x) (l : List UInt8) (e : Int) : isRW (w.setCell ⟨g, 0, none⟩ (.string (strOf l))) g (l, x.2) ∧ isRW (w.setCell ⟨g, 1, none⟩ (.int .i64 e)) g (x.1, e) := ⟨h.put 0 _ rfl, h.put 1 _ rfl⟩
set_option maxRecDepth 100000 in
set_option maxHeartbeats 2000000 in
theorem rwfail_calls (g : Nat) (x : Sp.W) (e : Int) (w : World) (h : isRW w g x) :
    Calls Tryz.prog 50 #[.pointer (some ⟨g, 0, none⟩), .int .i64 e] w fun e' w' => e' = .returned (.tuple #[]) ∧ isRW w' g (Sp.wfail e x) ∧ Only g w w' := by
  have c1 := (h.cell 1).trans rfl
  have f1 := h.frozen 1
  by_cases h0 : x.2 = 0
  · have F := Lib.hid (show Sp.wfail e x = (x.1, e) from if_pos h0)
    have S := Lib.hid (isRW.set x w g h x.1 e).2
    rw [h0] at c1
    clear h h0
    go_enter Tryz.func50, Tryz.ntmps50
    go_wp2_with fail
    go_end0
    exact ⟨rfl, by rw [F.out]; exact S.out, Only.set _ _ _ _⟩
  · have F := Lib.hid (show Sp.wfail e x = x from if_neg h0)
    have e1 : (x.2 == 0) = false := by simpa using h0
    have H := Lib.hid h
    clear h h0
    go_enter Tryz.func50, Tryz.ntmps50
    go_wp2_with fail
    go_end0
    exact ⟨rfl, by rw [F.out]; exact H.out, Only.refl _ _⟩
set_option maxRecDepth 100000 in
set_option maxHeartbeats 2000000 in
theorem rwput_calls (g : Nat) (x : Sp.W) (is : Bool) (l : List UInt8) (w : World) (h : isRW w g x) (hlen : x.1.length + l.length ≤ 140737488355328) :
    Calls Tryz.prog 85 #[.pointer (some ⟨g, 0, none⟩), .bool is, .string (strOf l)] w fun e' w' => e' = .returned (.tuple #[]) ∧ isRW w' g (Sp.wput is l x) ∧ Only g w w' := by
  have c0 := (h.cell 0).trans rfl
  have c1 := (h.cell 1).trans rfl
  have f0 := h.frozen 0
  have f1 := h.frozen 1
  by_cases h0 : x.2 = 0
  · rw [h0] at c1
    cases is with
    | false =>
      have F := Lib.hid (show Sp.wput false l x = (x.1, 2) by unfold Sp.wput; rw [if_neg (by simp [h0])]; rfl)
      have S := Lib.hid (isRW.set x w g h x.1 2).2
      clear h h0
      go_enter Tryz.func85, Tryz.ntmps85
      go_wp2_with fail
      go_end0
      exact ⟨rfl, by rw [F.out]; exact S.out, Only.set _ _ _ _⟩
    | true =>
      have F := Lib.hid (show Sp.wput true l x = (x.1 ++ l, 0) by unfold Sp.wput; rw [if_neg (by simp [h0])]; rfl)
      have S := Lib.hid (isRW.set x w g h (x.1 ++ l) 0).1
      rw [h0] at S
      have a1 : strOf x.1 ++ strOf l = strOf (x.1 ++ l) := by rw [strOf_append, strOf_data]
      have s1 : (strOf x.1).size = x.1.length := strOf_size _
      have s2 : (strOf l).size = l.length := strOf_size _
      clear h h0
      go_enter Tryz.func85, Tryz.ntmps85
      go_wp2_with fail
      go_end0
      exact ⟨rfl, by rw [F.out]; exact S.out, Only.set _ _ _ _⟩
  · have F := Lib.hid (show Sp.wput is l x = x by unfold Sp.wput; rw [if_pos (by simpa using h0)])
    have e1 : (x.2 == 0) = false := by simpa using h0
    have e2 : (x.2 != 0) = true := by simpa using h0
    have H := Lib.hid h
    clear h h0
    go_enter Tryz.func85, Tryz.ntmps85
    go_wp2_with fail
    refine bodyPost_ret (results_none rfl _ _ _) rfl ?_
    exact ⟨rfl, by rw [F.out]; exact H.out, Only.refl _ _⟩
set_option maxRecDepth 100000 in
set_option maxHeartbeats 2000000 in
theorem rwnum_calls (g : Nat) (x : Sp.W) (n : Int) (w : World) (h : isRW w g x) (hlen : x.1.length ≤ 100000000000000) :
    Calls Tryz.prog 53 #[.pointer (some ⟨g, 0, none⟩), .int .i64 n] w fun e' w' => e' = .returned (.tuple #[]) ∧ isRW w' g (Sp.wnum n x) ∧ Only g w w' := by
  have P := Lib.hid (rput_calls n w)
  have PU := Lib.hid fun (W : World) (hb : Below w.heap.size w W) => rwput_calls g x (decide (0 ≤ n ∧ n ≤ 1073741824)) (Sp.put n) W (h.below hb) (by have := Sp.put_len n; omega)
  have F := Lib.hid (show Sp.wnum n x = Sp.wput (decide (0 ≤ n ∧ n ≤ 1073741824)) (Sp.put n) x from rfl)
  by_cases h0 : 0 ≤ n
  · have e0 : decide (0 ≤ n) = true := decide_eq_true h0
    rw [show decide (0 ≤ n ∧ n ≤ 1073741824) = decide (n ≤ 1073741824) by rw [decide_eq_decide]; omega] at F PU
    obtain ⟨b, hb⟩ : ∃ b, decide (n ≤ 1073741824) = b := ⟨_, rfl⟩
    rw [hb] at F PU
    clear h h0
    go_enter Tryz.func53, Tryz.ntmps53
    go_wp2_with (first
      | (go_at_call 86; refine P.out.mono ?_; rintro e w1 ⟨rfl, hb1⟩)
      | (go_at_call 85; refine (PU.out w1 hb1).mono ?_; rintro e w2 ⟨rfl, hw2, ho2⟩))
    go_end0
    exact ⟨rfl, by rw [F.out]; exact hw2, (Only.of_below g hb1).trans ho2⟩
  · have e0 : decide (0 ≤ n) = false := decide_eq_false h0
    rw [show decide (0 ≤ n ∧ n ≤ 1073741824) = false by rw [decide_eq_false_iff_not]; omega] at F PU
    clear h h0
    go_enter Tryz.func53, Tryz.ntmps53
    go_wp2_with (first
      | (go_at_call 86; refine P.out.mono ?_; rintro e w1 ⟨rfl, hb1⟩)
      | (go_at_call 85; refine (PU.out w1 hb1).mono ?_; rintro e w2 ⟨rfl, hw2, ho2⟩))
    go_end0
    exact ⟨rfl, by rw [F.out]; exact hw2, (Only.of_below g hb1).trans ho2⟩
set_option maxRecDepth 100000 in
set_option maxHeartbeats 2000000 in
theorem rwtext_calls (g : Nat) (x : Sp.W) (s : ByteArray) (w : World) (h : isRW w g x) (hlen : x.1.length ≤ 100000000000000) (hs : s.size < 4294967200) :
    Calls Tryz.prog 54 #[.pointer (some ⟨g, 0, none⟩), .string s] w fun e' w' => e' = .returned (.tuple #[]) ∧ isRW w' g (Sp.wtext s.data.toList x) ∧ Only g w w' := by
  have P := Lib.hid (rput_calls (s.size : Int) w)
  have hdl : s.data.toList.length = s.size := by simp
  have hp := Sp.put_len (s.size : Int)
  have PU := Lib.hid fun (W : World) (hb : Below w.heap.size w W) => rwput_calls g x (decide ((s.size : Int) ≤ 65536)) (Sp.put (s.size : Int) ++ s.data.toList) W (h.below hb) (by rw [List.length_append]; omega)
  have F := Lib.hid (show Sp.wtext s.data.toList x = Sp.wput (decide ((s.size : Int) ≤ 65536)) (Sp.put (s.size : Int) ++ s.data.toList) x by
    unfold Sp.wtext; rw [hdl, show decide ((s.size : Int) ≤ 65536) = decide (s.size ≤ 65536) by rw [decide_eq_decide]; omega])
  have a1 : strOf (Sp.put (s.size : Int)) ++ s = strOf (Sp.put (s.size : Int) ++ s.data.toList) := by
    have := strOf_append (strOf (Sp.put (s.size : Int))) s.data.toList
    rwa [strOf_self, strOf_data] at this
  have s1 : (strOf (Sp.put (s.size : Int))).size ≤ 5 := by rw [strOf_size]; exact hp
  obtain ⟨p, hpp⟩ : ∃ p, p = strOf (Sp.put (s.size : Int)) := ⟨_, rfl⟩
  rw [← hpp] at a1 s1 P
  obtain ⟨b, hb⟩ : ∃ b, decide ((s.size : Int) ≤ 65536) = b := ⟨_, rfl⟩
  rw [hb] at F PU
  clear h hdl hp hpp
  go_enter Tryz.func54, Tryz.ntmps54
  go_wp2_with (first
    | (go_at_call 86; refine P.out.mono ?_; rintro e w1 ⟨rfl, hb1⟩)
    | (go_at_call 85; refine (PU.out w1 hb1).mono ?_; rintro e w2 ⟨rfl, hw2, ho2⟩))
  go_end0
  exact ⟨rfl, by rw [F.out]; exact hw2, (Only.of_below g hb1).trans ho2⟩
set_option maxRecDepth 100000 in
set_option maxHeartbeats 1000000 in
theorem rwdone_calls (g : Nat) (x : Sp.W) (w : World) (h : isRW w g x) :
    Calls Tryz.prog 56 #[.pointer (some ⟨g, 0, none⟩)] w fun e' w' => e' = .returned (.tuple #[.string (strOf (Sp.wdone x).1), .int .i64 (Sp.wdone x).2]) ∧ Below w.heap.size w w' := by
  have c0 := (h.cell 0).trans rfl
  have c1 := (h.cell 1).trans rfl
  by_cases h1 : x.2 = 0
  · have F := Lib.hid (show Sp.wdone x = (x.1, 0) from if_pos h1)
    rw [h1] at c1
    clear h h1
    go_enter Tryz.func56, Tryz.ntmps56
    go_wp2_with fail
    first | (have mixed : Tryz.prog.follows .mixedOrders = true := by kernel_rfl
             go_region_o) | skip
    all_goals
      go_wp2_with fail
      go_ret2
      exact ⟨by rw [F.out]; rfl, Below.refl _ _⟩
  · have F := Lib.hid (show Sp.wdone x = ([], x.2) from if_neg h1)
    have e1 : (x.2 == 0) = false := by simpa using h1
    clear h h1
    go_enter Tryz.func56, Tryz.ntmps56
    go_wp2_with fail
    have mixed : Tryz.prog.follows .mixedOrders = true := by kernel_rfl
    go_region_o
    all_goals
      go_wp2_with fail
      go_ret2
      exact ⟨by rw [F.out]; rfl, (Below.refl _ _).drew⟩
end Go.Proofs.YtmlkachfahabnaaGreatDoor
