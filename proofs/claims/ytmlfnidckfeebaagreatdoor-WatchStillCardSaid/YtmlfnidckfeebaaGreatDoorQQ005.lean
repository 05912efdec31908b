/- Walks: a coder.Writer's methods. Walks: what a coder.Writer has put. Walks: the reference's writer, and its reader. Records as bytes: plain. What a sum of thirty-two bits is: plain. Digests: plain. -/
import Derived.Lib.EndianBits
import Derived.Test.YtmlfnidckfeebaaGreatDoorQQ004
namespace Go.Proofs.YtmlfnidckfeebaaGreatDoor
open Go.RowKit
namespace Sp
abbrev W := List UInt8 × Int
def wput (is : Bool) (s : List UInt8) (x : W) : W := if x.2 ≠ 0 then x else if is then (x.1 ++ s, 0) else (x.1, 2)
def wnum (n : Int) (x : W) : W := wput (decide (0 ≤ n ∧ n ≤ 1073741824)) (put n) x
def wtext (s : List UInt8) (x : W) : W := wput (decide (s.length ≤ 65536)) (put s.length ++ s) x
def wfail (e : Int) (x : W) : W := if x.2 = 0 then (x.1, e) else x
def wdone (x : W) : W := if x.2 = 0 then (x.1, 0) else ([], x.2)
theorem wput_len (is : Bool) (s : List UInt8) (x : W) : (wput is s x).1.length ≤ x.1.length + s.length := by
  unfold wput; split
  · omega
  · split
    · simp
    · simp
theorem wnum_len (n : Int) (x : W) : (wnum n x).1.length ≤ x.1.length + 5 := by have := wput_len (decide (0 ≤ n ∧ n ≤ 1073741824)) (put n) x; have := put_len n; unfold wnum; omega
theorem wtext_len (s : List UInt8) (x : W) : (wtext s x).1.length ≤ x.1.length + (5 + s.length) := by
  have := wput_len (decide (s.length ≤ 65536)) (put s.length ++ s) x; have := put_len (s.length : Int); unfold wtext; rw [List.length_append] at *; omega
theorem wfail_len (e : Int) (x : W) : (wfail e x).1.length = x.1.length := by unfold wfail; split <;> rfl
end Sp
abbrev IsWr (B g : Nat) (x : Sp.W) (w : World) : Prop := IsW B g x.1 x.2 w
theorem IsW.lt {B g : Nat} {l : List UInt8} {e : Int} {w : World} (h : IsW B g l e w) : g < w.heap.size := by
  obtain ⟨_, p, v, _, hb, _⟩ := h; exact hb.lt
theorem IsW.below {B g : Nat} {l : List UInt8} {e : Int} {w w' : World} (h : IsW B g l e w) (hb : Below w.heap.size w w') : IsW B g l e w' := by
  obtain ⟨h1, p, v, hp, hblk, hown, hne⟩ := h
  refine ⟨h1, p, v, hp, hblk.below hb, ?_, hne⟩
  refine ⟨hown.1, ?_⟩
  rcases hown.2 with hn | ⟨g', cap', cur, hv, hbg, hgg, rest⟩
  · exact .inl hn
  · exact .inr ⟨g', cap', cur, hv, hbg, (hb.block _ (Array.getElem?_eq_some_iff.1 hgg).1).trans hgg, rest⟩
theorem IsW.err {B g : Nat} {l : List UInt8} {e : Int} {w : World} (h : IsW B g l e w) (e' : Int) : IsW B g l e' (w.setCell ⟨g, 2, none⟩ (.int .i64 e')) := by
  obtain ⟨h1, p, v, hp, hblk, hown, hne⟩ := h
  exact ⟨h1, p, v, hp, hblk.put 2 _ rfl, own_far hown hne _, hne⟩
theorem IsW.kept {B g : Nat} {l : List UInt8} {e : Int} {w : World} (h : IsW B g l e w) (i : Nat) (u : Value) : Kept w (w.setCell ⟨g, i, none⟩ u) := by
  obtain ⟨h1, p, v, hp, hblk, hown, hne⟩ := h
  exact Kept.set hblk i u
theorem IsW.cell {B g : Nat} {l : List UInt8} {e : Int} {w : World} (h : IsW B g l e w) : w.cell? ⟨g, 2, none⟩ = some (.int .i64 e) ∧ w.frozen? ⟨g, 2, none⟩ = false := by
  obtain ⟨h1, p, v, hp, hblk, hown, hne⟩ := h
  exact ⟨(hblk.cell 2).trans rfl, hblk.frozen 2⟩
set_option maxRecDepth 100000 in
set_option maxHeartbeats 2000000 in
theorem wfail_calls (B g : Nat) (x : Sp.W) (e : Int) (w : World) (h : IsWr B g x w) :
    Calls Tryz.prog 135 #[.pointer (some ⟨g, 0, none⟩), .int .i64 e] w fun e' w' => e' = .returned (.tuple #[]) ∧ IsWr B g (Sp.wfail e x) w' ∧ Below B w w' ∧ Kept w w' ∧ w.heap.size ≤ w'.heap.size := by
  obtain ⟨c2, f2⟩ := h.cell
  have hB := h.1
  by_cases h0 : x.2 = 0
  · have F := Lib.hid (show Sp.wfail e x = (x.1, e) from if_pos h0)
    have IW := Lib.hid (h.err e)
    have KK := Lib.hid (h.kept 2 (.int .i64 e))
    rw [h0] at c2
    clear h h0
    go_enter Tryz.func135, Tryz.ntmps135
    go_wp2_with fail
    go_end0
    exact ⟨rfl, by rw [F.out]; exact IW.out, (Below.refl _ _).setCell hB _, KK.out, by simp⟩
  · have F := Lib.hid (show Sp.wfail e x = x from if_neg h0)
    have e1 : (x.2 == 0) = false := by simpa using h0
    have H := Lib.hid h
    clear h h0
    go_enter Tryz.func135, Tryz.ntmps135
    go_wp2_with fail
    go_end0
    exact ⟨rfl, by rw [F.out]; exact H.out, Below.refl _ _, Kept.refl _, Nat.le_refl _⟩
set_option maxRecDepth 100000 in
set_option maxHeartbeats 2000000 in
theorem wput_calls (B g k : Nat) (x : Sp.W) (is : Bool) (ss : List ByteArray) (w : World) (h : IsWr B g x w) (hk : isBlk w k 9 (ss.map Value.string).toArray) (hlen : x.1.length + (ss.flatMap (fun s => s.data.toList)).length ≤ 140737488355328) (hBw : B ≤ w.heap.size) (hss : ss.length ≤ 100) :
    Calls Tryz.prog 187 #[.pointer (some ⟨g, 0, none⟩), .bool is, .slice (some ⟨k, 0, none⟩) ss.length ss.length] w fun e' w' =>
      e' = .returned (.tuple #[]) ∧ IsWr B g (Sp.wput is (ss.flatMap (fun s => s.data.toList)) x) w' ∧ Below B w w' ∧ Kept w w' ∧ w.heap.size ≤ w'.heap.size := by
  obtain ⟨c2, f2⟩ := h.cell
  have hB := h.1
  by_cases h0 : x.2 = 0
  · rw [h0] at c2
    cases is with
    | false =>
      have F := Lib.hid (show Sp.wput false (ss.flatMap (fun s => s.data.toList)) x = (x.1, 2) by unfold Sp.wput; rw [if_neg (by simp [h0])]; rfl)
      have IW := Lib.hid (h.err 2)
      have KK := Lib.hid (h.kept 2 (.int .i64 2))
      clear h h0
      go_enter Tryz.func187, Tryz.ntmps187
      go_wp2_with fail
      go_end0
      exact ⟨rfl, by rw [F.out]; exact IW.out, (Below.refl _ _).setCell hB _, KK.out, by simp⟩
    | true =>
      have F := Lib.hid (show Sp.wput true (ss.flatMap (fun s => s.data.toList)) x = (x.1 ++ ss.flatMap (fun s => s.data.toList), 0) by unfold Sp.wput; rw [if_neg (by simp [h0])]; rfl)
      have H := Lib.hid (show IsW B g x.1 0 w by rw [← h0]; exact h)
      clear h h0
      go_enter Tryz.func187, Tryz.ntmps187
      go_wp2_with fail
      go_loopw [10] (fun v10 wr => ∃ i : Nat, i ≤ ss.length ∧ v10 = .int .i64 i ∧ IsWr B g (x.1 ++ (ss.take i).flatMap (fun s => s.data.toList), 0) wr ∧ Below B w wr ∧ Kept w wr ∧ w.heap.size ≤ wr.heap.size) (fun v10 _ => ss.length - (intOf v10).toNat)
      case atStart => exact ⟨0, Nat.zero_le _, rfl, by simpa using H.out, Below.refl _ _, Kept.refl _, Nat.le_refl _⟩
      case round =>
        obtain ⟨i, hi, rfl, hw, hb, hkp, hsz⟩ := hrel
        have hk' := hkp k _ _ hk (by decide) (by decide)
        by_cases hlt : i < ss.length
        · have q1 : decide ((i : Int) < (ss.length : Int)) = true := by rw [decide_eq_true_iff]; omega
          have ci : wr.cell? ⟨k, i, none⟩ = some (.string ss[i]) := by rw [hk'.at i (by simpa using hlt)]; simp
          have hl2 : (x.1 ++ (ss.take i).flatMap (fun s => s.data.toList)).length + ss[i].size ≤ 140737488355328 := by
            have e : ss.flatMap (fun s => s.data.toList) = (ss.take i).flatMap (fun s => s.data.toList) ++ (ss[i].data.toList ++ (ss.drop (i + 1)).flatMap (fun s => s.data.toList)) := by
              conv => lhs; rw [← List.take_append_drop i ss, List.drop_eq_getElem_cons hlt, List.flatMap_append, List.flatMap_cons]
            rw [e] at hlen
            simp only [List.length_append, show ss[i].data.toList.length = ss[i].size by simp] at hlen ⊢
            omega
          have e3 : ((ss.take (i + 1)).flatMap fun s => s.data.toList) = (ss.take i).flatMap (fun s => s.data.toList) ++ ss[i].data.toList := by
            rw [List.take_add_one, List.getElem?_eq_getElem hlt, Option.toList_some, List.flatMap_append]; simp
          have E3 := Lib.hid e3
          have C := Lib.hid (ws_calls B g _ 0 ss[i] wr hw hl2 (by omega))
          have WSZ := Lib.hid hsz
          clear hl2 e3 c2 f2 hlen hw
          go_wp2_with (go_at_call 248; refine C.out.mono ?_; rintro e w1 ⟨rfl, hw1, hb1, hk1⟩)
          go_roundw
          case rel => exact ⟨i + 1, by omega, by go_num, by rw [E3.out, ← List.append_assoc]; exact hw1, hb.trans hb1, hkp.trans hk1, Nat.le_trans WSZ.out hb1.size⟩
          case measure => simp [intOf]; omega
        · have q1 : decide ((i : Int) < (ss.length : Int)) = false := by rw [decide_eq_false_iff_not]; omega
          obtain rfl : i = ss.length := by omega
          rw [List.take_length] at hw
          have HW := Lib.hid hw
          clear hw c2 f2 hlen
          go_wp2_with fail
          go_end0
          exact ⟨rfl, by rw [F.out]; exact HW.out, hb, hkp, hsz⟩
  · have F := Lib.hid (show Sp.wput is (ss.flatMap (fun s => s.data.toList)) x = x by unfold Sp.wput; rw [if_pos (by simpa using h0)])
    have e1 : (x.2 == 0) = false := by simpa using h0
    have H := Lib.hid h
    clear h h0
    go_enter Tryz.func187, Tryz.ntmps187
    go_wp2_with fail
    go_end0
    exact ⟨rfl, by rw [F.out]; exact H.out, Below.refl _ _, Kept.refl _, Nat.le_refl _⟩
set_option maxRecDepth 100000 in
set_option maxHeartbeats 2000000 in
theorem wnum_calls (B g : Nat) (x : Sp.W) (n : Int) (w : World) (h : IsWr B g x w) (hlen : x.1.length ≤ 100000000000000) (hBw : B ≤ w.heap.size) :
    Calls Tryz.prog 120 #[.pointer (some ⟨g, 0, none⟩), .int .i64 n] w fun e' w' => e' = .returned (.tuple #[]) ∧ IsWr B g (Sp.wnum n x) w' ∧ Below B w w' ∧ Kept w w' ∧ w.heap.size ≤ w'.heap.size := by
  have P := Lib.hid (cput_calls n w)
  have hp := Sp.put_len n
  obtain ⟨l, hl⟩ : ∃ l, l = Sp.put n := ⟨_, rfl⟩
  have e1 : (!l.isEmpty) = decide (0 ≤ n ∧ n ≤ 1073741824) := by
    rw [hl]; have := Sp.put_ne (n := n)
    by_cases h1 : 0 ≤ n ∧ n ≤ 1073741824
    · rw [decide_eq_true h1]; have := this.2 h1; simpa using this
    · rw [decide_eq_false h1]; have h2 : ¬ _ := fun a => h1 (this.1 a); simpa using h2
  have e2 := strOf_toList l
  rw [← hl] at P hp
  have F := Lib.hid (show Sp.wnum n x = Sp.wput (decide (0 ≤ n ∧ n ≤ 1073741824)) l x by rw [hl]; rfl)
  clear hl
  have PU := Lib.hid fun (W : World) (hb : Below w.heap.size w W) =>
    wput_calls B g W.heap.size x (decide (0 ≤ n ∧ n ≤ 1073741824)) [strOf l] (W.alloc (.cells #[.string (strOf l)] 9)) ((h.below hb).below ((Below.refl _ _).alloc (Nat.le_refl _) _)) (heap_alloc_new _ _) (by simp; omega) (by have := hb.size; simp; omega) (by simp)
  have HB := Lib.hid hBw
  obtain ⟨b, hb⟩ : ∃ b, b = decide (0 ≤ n ∧ n ≤ 1073741824) := ⟨_, rfl⟩
  rw [← hb] at e1 F PU
  clear h hBw hb
  go_enter Tryz.func120, Tryz.ntmps120
  go_wp2_with (first
    | (go_at_call 186; refine P.out.mono ?_; rintro e w1 ⟨rfl, hb1⟩)
    | (go_at_call 187; refine (PU.out w1 hb1).mono ?_; rintro e w2 ⟨rfl, hw2, hb2, hk2, hs2⟩))
  go_end0
  have h1 : Below B w (w1.alloc (.cells #[.string (strOf l)] 9)) := (hb1.mono HB.out).alloc (Nat.le_trans HB.out hb1.size) _
  refine ⟨rfl, ?_, h1.trans hb2, ((Kept.below hb1).trans (Kept.below ((Below.refl _ _).alloc (Nat.le_refl _) _))).trans hk2, ?_⟩
  · rw [F.out]; simpa using hw2
  · have := hb1.size; have := HB.out; rw [World.size_alloc] at hs2; omega
set_option maxRecDepth 100000 in
set_option maxHeartbeats 2000000 in
theorem wtext_calls (B g : Nat) (x : Sp.W) (s : ByteArray) (w : World) (h : IsWr B g x w) (hlen : x.1.length ≤ 100000000000000) (hs : s.size < 4294967200) (hBw : B ≤ w.heap.size) :
    Calls Tryz.prog 191 #[.pointer (some ⟨g, 0, none⟩), .string s] w fun e' w' => e' = .returned (.tuple #[]) ∧ IsWr B g (Sp.wtext s.data.toList x) w' ∧ Below B w w' ∧ Kept w w' ∧ w.heap.size ≤ w'.heap.size := by
  have P := Lib.hid (cput_calls (s.size : Int) w)
  have hp := Sp.put_len (s.size : Int)
  obtain ⟨l, hl⟩ : ∃ l, l = Sp.put (s.size : Int) := ⟨_, rfl⟩
  rw [← hl] at P hp
  have hdl : s.data.toList.length = s.size := by simp
  have F := Lib.hid (show Sp.wtext s.data.toList x = Sp.wput (decide ((s.size : Int) ≤ 65536)) (l ++ s.data.toList) x by
    unfold Sp.wtext; rw [hl, hdl, show decide ((s.size : Int) ≤ 65536) = decide (s.size ≤ 65536) by rw [decide_eq_decide]; omega])
  clear hl
  have PU := Lib.hid fun (W : World) (hb : Below w.heap.size w W) =>
    wput_calls B g W.heap.size x (decide ((s.size : Int) ≤ 65536)) [strOf l, s] (W.alloc (.cells #[.string (strOf l), .string s] 9)) ((h.below hb).below ((Below.refl _ _).alloc (Nat.le_refl _) _)) (heap_alloc_new _ _) (by simp; omega) (by have := hb.size; simp; omega) (by simp)
  have HB := Lib.hid hBw
  obtain ⟨b, hb⟩ : ∃ b, decide ((s.size : Int) ≤ 65536) = b := ⟨_, rfl⟩
  rw [hb] at F PU
  clear h hBw hdl
  go_enter Tryz.func191, Tryz.ntmps191
  go_wp2_with (first
    | (go_at_call 186; refine P.out.mono ?_; rintro e w1 ⟨rfl, hb1⟩)
    | (go_at_call 187; refine (PU.out w1 hb1).mono ?_; rintro e w2 ⟨rfl, hw2, hb2, hk2, hs2⟩))
  go_end0
  have h1 : Below B w (w1.alloc (.cells #[.string (strOf l), .string s] 9)) := (hb1.mono HB.out).alloc (Nat.le_trans HB.out hb1.size) _
  refine ⟨rfl, ?_, h1.trans hb2, ((Kept.below hb1).trans (Kept.below ((Below.refl _ _).alloc (Nat.le_refl _) _))).trans hk2, ?_⟩
  · rw [F.out]; simpa using hw2
  · have := hb1.size; have := HB.out; rw [World.size_alloc] at hs2; omega
end Go.Proofs.YtmlfnidckfeebaaGreatDoor
namespace Go.Proofs.YtmlfnidckfeebaaGreatDoor
open Go.RowKit
set_option maxRecDepth 100000 in
set_option maxHeartbeats 1000000 in
theorem bstr_calls (B g : Nat) (l : List UInt8) (e : Int) (w : World) (h : IsW B g l e w) (h0 : l ≠ []) :
    Calls Tryz.prog 193 #[.pointer (some ⟨g, 0, none⟩)] w fun e' w' => e' = .returned (.string (strOf l)) ∧ Below B w w' := by
  obtain ⟨hB, p, v, hp, hblk, hown, hne⟩ := h
  have hl0 : l.length ≠ 0 := by simpa using h0
  obtain ⟨k, cap, cur, rfl, hbg, hg, hnc, hcm, hcs, htake⟩ : ∃ k cap cur, v = .slice (some ⟨k, 0, none⟩) l.length cap ∧ B ≤ k ∧ w.heap[k]? = some (.cells cur 5 (0, 0)) ∧ l.length ≤ cap ∧ cap ≤ maxLen ∧ cur.size = cap * 1 ∧ cur.toList.take (l.length * 1) = l.map byteV := by
    rcases hown.2 with ⟨_, hz⟩ | ⟨k, cap, cur, hv, r⟩
    · exact absurd hz hl0
    · exact ⟨k, cap, cur, hv, r⟩
  have c1 : w.drew.cell? ⟨g, 1, none⟩ = some (.slice (some ⟨k, 0, none⟩) l.length cap) := (hblk.cell 1).trans rfl
  have hSD : (Builtin.unsafeSliceData_ #[172] 298 #[.slice (some ⟨k, 0, none⟩) l.length cap]).run Tryz.prog w.drew = .ok (.pointer (some ⟨k, 0, none⟩)) w.drew :=
    Lib.run_unsafeSliceData_row _ _ _ _ _ _ (by omega)
  have hUS : (Builtin.unsafeString_ #[298, 3] 9 #[.pointer (some ⟨k, 0, none⟩), .int .i64 l.length]).run Tryz.prog w.drew = .ok (.string (strOf l)) (w.drew.freeze ⟨k, 0, none⟩ l.length) := by
    refine Lib.run_unsafeString_row w.drew 298 3 9 5 Tryz.underlying298 (by kernel_rfl) k cur.size (by have hg' : w.drew.heap[k]? = some (.cells cur 5 (0, 0)) := hg; simp [World.shape?, hg']) l h0 (by omega) (by unfold maxLen at hcm; omega) ?_
    intro j x hx
    have := hown.cells (g := k) rfl j (.int .u8 x.toNat) (by simp [byteV, hx])
    exact this
  clear hown hp htake hcs hcm hnc
  have HG := Lib.hid hg
  clear hg h0 hl0 hblk hne
  go_enter Tryz.func193, Tryz.ntmps193
  go_wp2
  have mixed : Tryz.prog.follows .mixedOrders = true := by kernel_rfl
  go_region_o
  all_goals (go_wp2; go_ret; exact ⟨rfl, Lib.below_freeze (Below.drew (Below.refl B w)) (p := ⟨k, 0, none⟩) hbg _⟩)
set_option maxRecDepth 100000 in
set_option maxHeartbeats 1000000 in
theorem wdone_calls (B g : Nat) (x : Sp.W) (w : World) (h : IsWr B g x w) (h0 : x.2 = 0 → x.1 ≠ []) :
    Calls Tryz.prog 125 #[.pointer (some ⟨g, 0, none⟩)] w fun e' w' => e' = .returned (.tuple #[.string (strOf (Sp.wdone x).1), .int .i64 (Sp.wdone x).2]) ∧ Below B w w' := by
  obtain ⟨c2, f2⟩ := h.cell
  by_cases h1 : x.2 = 0
  · have F := Lib.hid (show Sp.wdone x = (x.1, 0) from if_pos h1)
    have C := Lib.hid (bstr_calls B g x.1 x.2 w h (h0 h1))
    rw [h1] at c2
    clear h h0 h1
    go_enter Tryz.func125, Tryz.ntmps125
    go_wp2_with (go_at_call 193; refine C.out.mono ?_; rintro e w1 ⟨rfl, hb1⟩)
    go_ret2
    exact ⟨by rw [F.out]; rfl, hb1⟩
  · have F := Lib.hid (show Sp.wdone x = ([], x.2) from if_neg h1)
    have e1 : (x.2 == 0) = false := by simpa using h1
    clear h h0 h1
    go_enter Tryz.func125, Tryz.ntmps125
    go_wp2_with fail
    have mixed : Tryz.prog.follows .mixedOrders = true := by kernel_rfl
    go_region_o
    all_goals
      go_wp2_with fail
      go_ret2
      exact ⟨by rw [F.out]; rfl, (Below.refl _ _).drew⟩
end Go.Proofs.YtmlfnidckfeebaaGreatDoor
namespace Go.Proofs.YtmlfnidckfeebaaGreatDoor
open Go.RowKit
structure Only (g : Nat) (w w' : World) : Prop where
  os : w'.os = w.os
  tape : w'.tape = w.tape
  output : w'.output = w.output
  size : w.heap.size ≤ w'.heap.size
  block : ∀ k, k < w.heap.size → k ≠ g → w'.heap[k]? = w.heap[k]?
theorem Only.refl (g : Nat) (w : World) : Only g w w := ⟨rfl, rfl, rfl, Nat.le_refl _, fun _ _ _ => rfl⟩
theorem Only.of_below {w w' : World} (g : Nat) (h : Below w.heap.size w w') : Only g w w' := ⟨h.os, h.tape, h.output, h.size, fun k hk _ => h.block k hk⟩
theorem Only.trans {g : Nat} {a b c : World} (h : Only g a b) (k : Only g b c) : Only g a c :=
  ⟨k.os.trans h.os, k.tape.trans h.tape, k.output.trans h.output, Nat.le_trans h.size k.size, fun j hj hn => (k.block j (Nat.lt_of_lt_of_le hj h.size) hn).trans (h.block j hj hn)⟩
theorem Only.below {g B : Nat} {w w' : World} (h : Only g w w') (hB : B ≤ g) (hw : B ≤ w.heap.size) : Below B w w' :=
  ⟨h.os, h.tape, h.output, h.size, fun k hk => h.block k (by omega) (by omega)⟩
theorem Only.blk {g k t : Nat} {cs : Array Value} {w w' : World} (h : Only g w w') (hk : isBlk w k t cs) (hn : k ≠ g) : isBlk w' k t cs := (h.block k hk.lt hn).trans hk
theorem Only.set (g j : Nat) (u : Value) (w : World) : Only g w (w.setCell ⟨g, j, none⟩ u) := ⟨rfl, rfl, rfl, by simp, fun k _ hn => Below.heap_setCell _ _ _ _ hn⟩
theorem Only.drew {g : Nat} {w w' : World} (h : Only g w w') : Only g w w'.drew := ⟨h.os, h.tape, h.output, h.size, h.block⟩
abbrev isRW (w : World) (g : Nat) (x : Sp.W) : Prop := isBlk w g 186 #[.string (strOf x.1), .int .i64 x.2]
theorem isRW.set (x : Sp.W) (w : World) (g : Nat) (h : isRW w g x) (l : List UInt8) (e : Int) : isRW (w.setCell ⟨g, 0, none⟩ (.string (strOf l))) g (l, x.2) ∧ isRW (w.setCell ⟨g, 1, none⟩ (.int .i64 e)) g (x.1, e) := ⟨h.put 0 _ rfl, h.put 1 _ rfl⟩
end Go.Proofs.YtmlfnidckfeebaaGreatDoor
namespace Go.Proofs.YtmlfnidckfeebaaGreatDoor
namespace Sp
def wflag (b : Bool) (x : W) : W := wput true [if b then 1 else 0] x
def wdigest (d : Bs) (x : W) : W := wput true d x
def wdot (d : Dot) (x : W) : W := wnum d.2 (wnum d.1 x)
def wdots (l : List Dot) (x : W) : W := l.foldl (fun x d => wdot d x) x
def wvec (v : List Dot) (x : W) : W := if vcheck v ≠ 0 then wfail (vcheck v) x else wdots v (wnum v.length x)
def wver (v : Ver) (x : W) : W := wtext v.data (wflag v.dead (wvec v.past (wdot v.dot x)))
def wvers (l : List Ver) (x : W) : W := l.foldl (fun x v => wver v x) x
def wleaf (l : List Ver) (x : W) : W := if leaf l ≠ 0 then wfail (leaf l) x else wvers l (wnum l.length x)
theorem wflag_len (b : Bool) (x : W) : (wflag b x).1.length ≤ x.1.length + 1 := by have := wput_len true [if b then 1 else 0] x; unfold wflag; simpa using this
theorem wdot_len (d : Dot) (x : W) : (wdot d x).1.length ≤ x.1.length + 10 := by
  have := wnum_len d.2 (wnum d.1 x); have := wnum_len d.1 x; unfold wdot; omega
theorem wdots_len (l : List Dot) : ∀ x : W, (wdots l x).1.length ≤ x.1.length + 10 * l.length := by
  induction l with
  | nil => intro x; simp [wdots]
  | cons d r ih =>
    intro x
    have h1 := ih (wdot d x)
    have h2 := wdot_len d x
    unfold wdots at *
    rw [List.foldl_cons, List.length_cons]
    omega
theorem wdots_snoc (l : List Dot) (d : Dot) (x : W) : wdots (l ++ [d]) x = wdot d (wdots l x) := by simp [wdots]
theorem wvers_snoc (l : List Ver) (v : Ver) (x : W) : wvers (l ++ [v]) x = wver v (wvers l x) := by simp [wvers]
theorem vgo_len : ∀ (l : List Dot) (last : Int), -1 ≤ last → last ≤ 63 → vgo last l = 0 → (l.length : Int) ≤ 63 - last
  | [], last, _, _, _ => by simp; omega
  | d :: r, last, h1, h2, h => by
    rw [vgo] at h
    by_cases hd : dot d = 0
    · rw [if_neg (by simpa using hd)] at h
      by_cases hl : d.1 ≤ last
      · rw [if_pos hl] at h; cases h
      · rw [if_neg hl] at h
        have hd' := dot_ok.1 hd
        have := vgo_len r d.1 (by omega) (by omega) h
        rw [List.length_cons]
        omega
    · rw [if_pos hd] at h; exact absurd h hd
theorem vcheck_len {l : List Dot} (h : vcheck l = 0) : l.length ≤ 64 := by
  have := vgo_len l (-1) (by omega) (by omega) h
  omega
theorem wvec_len (v : List Dot) (x : W) : (wvec v x).1.length ≤ x.1.length + 645 := by
  unfold wvec
  split
  · rw [wfail_len]; omega
  · rename_i h
    have hl := vcheck_len (l := v) (by simpa using h)
    have h1 := wdots_len v (wnum v.length x)
    have h2 := wnum_len (v.length : Int) x
    omega
theorem wver_len (v : Ver) (x : W) : (wver v x).1.length ≤ x.1.length + (661 + v.data.length) := by
  have h1 := wtext_len v.data (wflag v.dead (wvec v.past (wdot v.dot x)))
  have h2 := wflag_len v.dead (wvec v.past (wdot v.dot x))
  have h3 := wvec_len v.past (wdot v.dot x)
  have h4 := wdot_len v.dot x
  unfold wver
  omega
theorem wvers_len (l : List Ver) (n : Nat) : (∀ v ∈ l, v.data.length ≤ n) → ∀ x : W, (wvers l x).1.length ≤ x.1.length + (661 + n) * l.length := by
  induction l with
  | nil => intro _ x; simp [wvers]
  | cons d r ih =>
    intro h x
    have h1 := ih (fun v hv => h v (by simp [hv])) (wver d x)
    have h2 := wver_len d x
    have h3 := h d (by simp)
    unfold wvers at *
    rw [List.foldl_cons, List.length_cons, Nat.mul_add]
    omega
theorem lgo_vers : ∀ (l : List Ver) (last : Option Int), lgo last l = 0 → ∀ v ∈ l, vercheck v = 0
  | [], _, _, _, hv => by cases hv
  | v :: r, last, h, u, hu => by
    rw [lgo] at h
    by_cases hd : vercheck v = 0
    · rw [if_neg (by simpa using hd)] at h
      by_cases hl : ∃ x, last = some x ∧ v.dot.1 ≤ x
      · rw [if_pos hl] at h; cases h
      · rw [if_neg hl] at h
        rcases List.mem_cons.1 hu with rfl | hu
        · exact hd
        · exact lgo_vers r _ h u hu
    · rw [if_pos hd] at h; exact absurd h hd
theorem vercheck_ok {v : Ver} (h : vercheck v = 0) : dot v.dot = 0 ∧ vcheck v.past = 0 ∧ vhas v.past v.dot = false ∧ v.data.length ≤ 48 ∧ (v.dead = true → v.data = []) := by
  unfold vercheck at h
  by_cases h1 : dot v.dot = 0
  · rw [if_neg (by simpa using h1)] at h
    by_cases h2 : vcheck v.past = 0
    · rw [if_neg (by simpa using h2)] at h
      by_cases h3 : vhas v.past v.dot = true
      · rw [if_pos h3] at h; cases h
      · rw [if_neg h3] at h
        by_cases h4 : 48 < v.data.length
        · rw [if_pos h4] at h; cases h
        · rw [if_neg h4] at h
          by_cases h5 : v.dead = true ∧ v.data ≠ []
          · rw [if_pos h5] at h; cases h
          · refine ⟨h1, h2, by simpa using h3, by omega, fun hd => ?_⟩
            exact Classical.byContradiction fun hn => h5 ⟨hd, hn⟩
    · rw [if_pos h2] at h; exact absurd h h2
  · rw [if_pos h1] at h; exact absurd h h1
theorem leaf_ok {l : List Ver} (h : leaf l = 0) : l.length ≤ 64 ∧ lgo none l = 0 ∧ (l.any fun v => covered l v) = false := by
  unfold leaf at h
  by_cases h1 : 64 < l.length
  · rw [if_pos h1] at h; cases h
  · rw [if_neg h1] at h
    by_cases h2 : lgo none l = 0
    · rw [if_neg (by simpa using h2)] at h
      by_cases h3 : (l.any fun v => covered l v) = true
      · rw [if_pos h3] at h; cases h
      · exact ⟨by omega, h2, by simpa using h3⟩
    · rw [if_pos h2] at h; exact absurd h h2
theorem leaf_data {l : List Ver} (h : leaf l = 0) : ∀ v ∈ l, v.data.length ≤ 48 := fun v hv => (vercheck_ok (lgo_vers l none (leaf_ok h).2.1 v hv)).2.2.2.1
theorem wleaf_len (l : List Ver) (x : W) : (wleaf l x).1.length ≤ x.1.length + 45381 := by
  unfold wleaf
  split
  · rw [wfail_len]; omega
  · rename_i h
    have h' : leaf l = 0 := by simpa using h
    have h1 := wvers_len l 48 (leaf_data h') (wnum l.length x)
    have h2 := wnum_len (l.length : Int) x
    have h3 := (leaf_ok h').1
    have h4 : (661 + 48) * l.length ≤ (661 + 48) * 64 := Nat.mul_le_mul_left _ h3
    omega
end Sp
end Go.Proofs.YtmlfnidckfeebaaGreatDoor
namespace Go.Proofs.YtmlfnidckfeebaaGreatDoor
namespace Sp
end Sp
theorem wr32 (n : Int) (h0 : 0 ≤ n) (h1 : n < 2 ^ 32) : IntKind.u32.wrap n = n := by rw [IntKind.wrap_u32]; omega
end Go.Proofs.YtmlfnidckfeebaaGreatDoor
namespace Go.Proofs.YtmlfnidckfeebaaGreatDoor
open Go.RowKit
namespace Sp
def keys : List UInt32 := [
    0x428a2f98, 0x71374491, 0xb5c0fbcf, 0xe9b5dba5, 0x3956c25b, 0x59f111f1, 0x923f82a4, 0xab1c5ed5,
    0xd807aa98, 0x12835b01, 0x243185be, 0x550c7dc3, 0x72be5d74, 0x80deb1fe, 0x9bdc06a7, 0xc19bf174,
    0xe49b69c1, 0xefbe4786, 0x0fc19dc6, 0x240ca1cc, 0x2de92c6f, 0x4a7484aa, 0x5cb0a9dc, 0x76f988da,
    0x983e5152, 0xa831c66d, 0xb00327c8, 0xbf597fc7, 0xc6e00bf3, 0xd5a79147, 0x06ca6351, 0x14292967,
    0x27b70a85, 0x2e1b2138, 0x4d2c6dfc, 0x53380d13, 0x650a7354, 0x766a0abb, 0x81c2c92e, 0x92722c85,
    0xa2bfe8a1, 0xa81a664b, 0xc24b8b70, 0xc76c51a3, 0xd192e819, 0xd6990624, 0xf40e3585, 0x106aa070,
    0x19a4c116, 0x1e376c08, 0x2748774c, 0x34b0bcb5, 0x391c0cb3, 0x4ed8aa4a, 0x5b9cca4f, 0x682e6ff3,
    0x748f82ee, 0x78a5636f, 0x84c87814, 0x8cc70208, 0x90befffa, 0xa4506ceb, 0xbef9a3f7, 0xc67178f2]
theorem keys_len : keys.length = 64 := rfl
def start : List UInt32 := [0x6a09e667, 0xbb67ae85, 0x3c6ef372, 0xa54ff53a, 0x510e527f, 0x9b05688c, 0x1f83d9ab, 0x5be0cd19]
def rotr (x : UInt32) (n : Nat) : UInt32 := (x >>> UInt32.ofNat n) ||| (x <<< UInt32.ofNat (32 - n))
def lowS (x : UInt32) : UInt32 := rotr x 7 ^^^ rotr x 18 ^^^ (x >>> 3)
def highS (x : UInt32) : UInt32 := rotr x 17 ^^^ rotr x 19 ^^^ (x >>> 10)
def be (b : Bs) (i : Nat) : UInt32 := (b.getD (4 * i) 0).toUInt32 <<< 24 ||| (b.getD (4 * i + 1) 0).toUInt32 <<< 16 ||| (b.getD (4 * i + 2) 0).toUInt32 <<< 8 ||| (b.getD (4 * i + 3) 0).toUInt32
def first (b : Bs) (n : Nat) : List UInt32 := (List.range n).map (be b)
def next (l : List UInt32) : UInt32 := l.getD (l.length - 16) 0 + lowS (l.getD (l.length - 15) 0) + l.getD (l.length - 7) 0 + highS (l.getD (l.length - 2) 0)
def sched (b : Bs) : Nat → List UInt32
  | 0 => first b 16
  | n + 1 => sched b n ++ [next (sched b n)]
theorem first_len (b : Bs) (n : Nat) : (first b n).length = n := by simp [first]
theorem sched_len (b : Bs) : ∀ n, (sched b n).length = 16 + n
  | 0 => first_len b 16
  | n + 1 => by rw [sched, List.length_append, sched_len b n]; rfl
def rnd : List UInt32 → UInt32 → UInt32 → List UInt32
  | [a, b, c, d, e, f, g, h], k, w =>
    [(h + (rotr e 6 ^^^ rotr e 11 ^^^ rotr e 25) + ((e &&& f) ^^^ (~~~e &&& g)) + k + w) + ((rotr a 2 ^^^ rotr a 13 ^^^ rotr a 22) + ((a &&& b) ^^^ (a &&& c) ^^^ (b &&& c))), a, b, c,
      d + (h + (rotr e 6 ^^^ rotr e 11 ^^^ rotr e 25) + ((e &&& f) ^^^ (~~~e &&& g)) + k + w), e, f, g]
  | l, _, _ => l
def rnds (w : List UInt32) (h : List UInt32) (n : Nat) : List UInt32 := ((keys.zip w).take n).foldl (fun l kw => rnd l kw.1 kw.2) h
def mix (h : List UInt32) (b : Bs) : List UInt32 := List.zipWith (· + ·) (rnds (sched b 48) h 64) h
def mixN : Nat → List UInt32 → Bs → List UInt32
  | 0, h, _ => h
  | n + 1, h, l => mixN n (mix h (l.take 64)) (l.drop 64)
def be8 (n : Nat) : Bs := (List.range 8).map fun i => UInt8.ofNat (n / 2 ^ (56 - 8 * i))
def padding (n m : Nat) : Bs := 128 :: List.replicate ((119 - n % 64) % 64) 0 ++ be8 (m * 8)
def pad (l : Bs) : Bs := l ++ padding l.length l.length
def digest (h : List UInt32) : Bs := h.flatMap fun x => [UInt8.ofNat (x.toNat / 16777216), UInt8.ofNat (x.toNat / 65536), UInt8.ofNat (x.toNat / 256), UInt8.ofNat x.toNat]
def sha (l : Bs) : Bs := digest (mixN ((pad l).length / 64) start (pad l))
theorem rnd_len (l : List UInt32) (k w : UInt32) (h : l.length = 8) : (rnd l k w).length = 8 := by
  match l, h with
  | [a, b, c, d, e, f, g, x], _ => rfl
theorem rnds_len (w h : List UInt32) (n : Nat) (hh : h.length = 8) : (rnds w h n).length = 8 := by
  unfold rnds
  generalize (keys.zip w).take n = l
  induction l generalizing h with
  | nil => exact hh
  | cons x r ih => exact ih _ (rnd_len _ _ _ hh)
theorem rnds_succ (w h : List UInt32) (n : Nat) (hw : w.length = 64) (hn : n < 64) : rnds w h (n + 1) = rnd (rnds w h n) (keys.getD n 0) (w.getD n 0) := by
  unfold rnds
  have hl : n < (keys.zip w).length := by rw [List.length_zip, keys_len, hw]; exact hn
  rw [List.take_succ_eq_append_getElem hl, List.foldl_append]
  simp [List.getD_eq_getElem?_getD, List.getElem?_eq_getElem (show n < keys.length from hn), List.getElem?_eq_getElem (show n < w.length by omega)]
theorem mix_len (h : List UInt32) (b : Bs) (hh : h.length = 8) : (mix h b).length = 8 := by
  unfold mix; rw [List.length_zipWith, rnds_len _ _ _ hh, hh]; rfl
theorem mixN_len : ∀ (n : Nat) (h : List UInt32) (l : Bs), h.length = 8 → (mixN n h l).length = 8
  | 0, _, _, hh => hh
  | n + 1, h, _, hh => mixN_len n _ _ (mix_len h _ hh)
theorem mixN_snoc : ∀ (n : Nat) (h : List UInt32) (l : Bs), mixN (n + 1) h l = mix (mixN n h l) ((l.drop (64 * n)).take 64)
  | 0, h, l => by simp [mixN]
  | n + 1, h, l => by
    rw [mixN, mixN_snoc n, mixN, List.drop_drop]
    congr 3
    omega
theorem mixN_add (a : Nat) : ∀ (b : Nat) (h : List UInt32) (l : Bs), mixN (b + a) h l = mixN a (mixN b h l) (l.drop (64 * b))
  | 0, h, l => by simp [mixN]
  | b + 1, h, l => by
    rw [show b + 1 + a = (b + a) + 1 by omega, mixN, mixN_add a b, mixN, List.drop_drop]
    congr 2
    omega
theorem mixN_pre : ∀ (n : Nat) (h : List UInt32) (l m : Bs), 64 * n ≤ l.length → mixN n h (l ++ m) = mixN n h l
  | 0, _, _, _, _ => rfl
  | n + 1, h, l, m, hl => by
    rw [mixN, mixN, List.take_append_of_le_length (by omega), List.drop_append_of_le_length (by omega)]
    exact mixN_pre n _ _ _ (by rw [List.length_drop]; omega)
theorem be8_len (n : Nat) : (be8 n).length = 8 := by simp [be8]
theorem digest_len (h : List UInt32) : (digest h).length = h.length * 4 := by
  induction h with
  | nil => rfl
  | cons x r ih => unfold digest at *; rw [List.flatMap_cons, List.length_append, ih, List.length_cons]; simp; omega
theorem sha_len (l : Bs) : (sha l).length = 32 := by
  unfold sha; rw [digest_len, mixN_len _ _ _ rfl]
end Sp
def wd (x : UInt32) : Int := (x.toNat : Int)
abbrev wordV (x : UInt32) : Value := .int .u32 (wd x)
def wordsC (l : List UInt32) : Array Value := (l.map wordV).toArray
theorem wordsC_size (l : List UInt32) : (wordsC l).size = l.length := by simp [wordsC]
theorem wordsC_get (l : List UInt32) (i : Nat) (h : i < l.length) : (wordsC l)[i]? = some (wordV (l.getD i 0)) := by simp [wordsC, h]
theorem wordsC_set (l : List UInt32) (i : Nat) (x : UInt32) : (wordsC l).setIfInBounds i (wordV x) = wordsC (l.set i x) := by
  apply Array.ext'
  simp [wordsC, List.map_set]
theorem wordsC_one (l : List UInt32) : (wordsC l).all (·.oneCell') = true := by
  simp [wordsC, Value.oneCell']
theorem w32 (n : Int) : IntKind.u32.wrap n = n % 4294967296 := by rw [IntKind.wrap_u32]
theorem w_add (x y : UInt32) : IntKind.u32.wrap (wd x + wd y) = wd (x + y) := by
  unfold wd; rw [w32, UInt32.toNat_add]; omega
theorem bits32 (x : UInt32) : (BitVec.ofInt 32 (wd x)) = x.toBitVec := by
  apply BitVec.eq_of_toNat_eq
  unfold wd
  rw [BitVec.ofInt_natCast, BitVec.toNat_ofNat]
  exact Nat.mod_eq_of_lt x.toNat_lt
theorem w_lt (x : UInt32) : 0 ≤ wd x ∧ wd x < 4294967296 := by have := x.toNat_lt; unfold wd; omega
theorem w_xor (x y : UInt32) : bits .xor .u32 (wd x) (wd y) = wd (x ^^^ y) := by
  show IntKind.u32.wrap ((BitVec.ofInt 32 (wd x) ^^^ BitVec.ofInt 32 (wd y)).toNat : Int) = _
  rw [bits32 x, bits32 y, wr32 _ (Int.natCast_nonneg _) (by have := (x.toBitVec ^^^ y.toBitVec).isLt; omega)]
  rfl
theorem w_and (x y : UInt32) : bits .and .u32 (wd x) (wd y) = wd (x &&& y) := by
  show IntKind.u32.wrap ((BitVec.ofInt 32 (wd x) &&& BitVec.ofInt 32 (wd y)).toNat : Int) = _
  rw [bits32 x, bits32 y, wr32 _ (Int.natCast_nonneg _) (by have := (x.toBitVec &&& y.toBitVec).isLt; omega)]
  rfl
theorem w_or (x y : UInt32) : bits .or .u32 (wd x) (wd y) = wd (x ||| y) := by
  show IntKind.u32.wrap ((BitVec.ofInt 32 (wd x) ||| BitVec.ofInt 32 (wd y)).toNat : Int) = _
  rw [bits32 x, bits32 y, wr32 _ (Int.natCast_nonneg _) (by have := (x.toBitVec ||| y.toBitVec).isLt; omega)]
  rfl
theorem w_shr (x : UInt32) (n : Nat) (hn : n < 32) : (wd x / ((2 ^ n : Nat) : Int)) = wd (x >>> UInt32.ofNat n) := by
  unfold wd
  rw [UInt32.toNat_shiftRight, Nat.shiftRight_eq_div_pow]
  rw [show (UInt32.ofNat n).toNat % 32 = n by rw [UInt32.toNat_ofNat']; omega]
  exact (Int.natCast_ediv _ _).symm
theorem w_shl (x : UInt32) (n : Nat) (hn : n < 32) : IntKind.u32.wrap (wd x * ((2 ^ n : Nat) : Int)) = wd (x <<< UInt32.ofNat n) := by
  unfold wd
  rw [UInt32.toNat_shiftLeft, Nat.shiftLeft_eq, w32]
  rw [show (UInt32.ofNat n).toNat % 32 = n by rw [UInt32.toNat_ofNat']; omega]
  rw [← Int.natCast_mul]
  exact (Int.natCast_emod _ _).symm
theorem w_wrap (x : UInt32) : IntKind.u32.wrap (wd x) = wd x := by have := w_lt x; rw [w32]; omega
theorem w_shl8 (x : UInt32) : IntKind.u32.wrap (wd x * (256 : Int)) = wd (x <<< 8) := w_shl x 8 (by decide)
theorem w_shl16 (x : UInt32) : IntKind.u32.wrap (wd x * (65536 : Int)) = wd (x <<< 16) := w_shl x 16 (by decide)
theorem w_shl24 (x : UInt32) : IntKind.u32.wrap (wd x * (16777216 : Int)) = wd (x <<< 24) := w_shl x 24 (by decide)
theorem w_shr3 (x : UInt32) : wd x / (8 : Int) = wd (x >>> 3) := w_shr x 3 (by decide)
theorem w_shr10 (x : UInt32) : wd x / (1024 : Int) = wd (x >>> 10) := w_shr x 10 (by decide)
end Go.Proofs.YtmlfnidckfeebaaGreatDoor
