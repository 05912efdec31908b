/- Walks: what a coder.Writer has put. Walks: the reference's writer, and its reader. Records as bytes: plain. What a sum of thirty-two bits is: plain. -/
import Derived.Test.YteiblfcehlibpaaGreatDoorWD04
import Derived.Test.YteiblfcehlibpaaGreatDoorWD02
import Derived.Test.YteiblfcehlibpaaGreatDoorWD01
import Derived.Laws.BitsLemmas
import Derived.Lib.EndianBits
namespace Go.Proofs.YteiblfcehlibpaaGreatDoor
open Go.RowKit
set_option maxRecDepth 100000 in
set_option maxHeartbeats 1000000 in
theorem bstr_calls (B g : Nat) (l : List UInt8) (e : Int) (w : World) (h : IsW B g l e w) (h0 : l ≠ []) :
    Calls Tryz.prog 177 #[.pointer (some ⟨g, 0, none⟩)] w fun e' w' => e' = .returned (.string (strOf l)) ∧ Below B w w' := by
  obtain ⟨hB, p, v, hp, hblk, hown, hne⟩ := h
  have hl0 : l.length ≠ 0 := by simpa using h0
  obtain ⟨k, cap, cur, rfl, hbg, hg, hnc, hcm, hcs, htake⟩ : ∃ k cap cur, v = .slice (some ⟨k, 0, none⟩) l.length cap ∧ B ≤ k ∧ w.heap[k]? = some (.cells cur 5 (0, 0)) ∧ l.length ≤ cap ∧ cap ≤ maxLen ∧ cur.size = cap * 1 ∧ cur.toList.take (l.length * 1) = l.map byteV := by
    rcases hown.2 with ⟨_, hz⟩ | ⟨k, cap, cur, hv, r⟩
    · exact absurd hz hl0
    · exact ⟨k, cap, cur, hv, r⟩
  have c1 : w.drew.cell? ⟨g, 1, none⟩ = some (.slice (some ⟨k, 0, none⟩) l.length cap) := (hblk.cell 1).trans rfl
  have hSD : (Builtin.unsafeSliceData_ #[183] 213 #[.slice (some ⟨k, 0, none⟩) l.length cap]).run Tryz.prog w.drew = .ok (.pointer (some ⟨k, 0, none⟩)) w.drew :=
    Lib.run_unsafeSliceData_row _ _ _ _ _ _ (by omega)
  have hUS : (Builtin.unsafeString_ #[213, 3] 9 #[.pointer (some ⟨k, 0, none⟩), .int .i64 l.length]).run Tryz.prog w.drew = .ok (.string (strOf l)) (w.drew.freeze ⟨k, 0, none⟩ l.length) := by
    refine Lib.run_unsafeString_row w.drew 213 3 9 5 Tryz.underlying213 (by kernel_rfl) k cur.size (by have hg' : w.drew.heap[k]? = some (.cells cur 5 (0, 0)) := hg; simp [World.shape?, hg']) l h0 (by omega) (by unfold maxLen at hcm; omega) ?_
    intro j x hx
    have := hown.cells (g := k) rfl j (.int .u8 x.toNat) (by simp [byteV, hx])
    exact this
  clear hown hp htake hcs hcm hnc
  have HG := Lib.hid hg
  clear hg h0 hl0 hblk hne
  go_enter Tryz.func177, Tryz.ntmps177
  go_wp2
  have mixed : Tryz.prog.follows .mixedOrders = true := by kernel_rfl
  go_region_o
  all_goals (go_wp2; go_ret; exact ⟨rfl, Lib.below_freeze (Below.drew (Below.refl B w)) (p := ⟨k, 0, none⟩) hbg _⟩)
set_option maxRecDepth 100000 in
set_option maxHeartbeats 1000000 in
theorem wdone_calls (B g : Nat) (x : Sp.W) (w : World) (h : IsWr B g x w) (h0 : x.2 = 0 → x.1 ≠ []) :
    Calls Tryz.prog 226 #[.pointer (some ⟨g, 0, none⟩)] w fun e' w' => e' = .returned (.tuple #[.string (strOf (Sp.wdone x).1), .int .i64 (Sp.wdone x).2]) ∧ Below B w w' := by
  obtain ⟨c2, f2⟩ := h.cell
  by_cases h1 : x.2 = 0
  · have F := Lib.hid (show Sp.wdone x = (x.1, 0) from if_pos h1)
    have C := Lib.hid (bstr_calls B g x.1 x.2 w h (h0 h1))
    rw [h1] at c2
    clear h h0 h1
    go_enter Tryz.func226, Tryz.ntmps226
    go_wp2_with (go_at_call 177; refine C.out.mono ?_; rintro e w1 ⟨rfl, hb1⟩)
    go_ret2
    exact ⟨by rw [F.out]; rfl, hb1⟩
  · have F := Lib.hid (show Sp.wdone x = ([], x.2) from if_neg h1)
    have e1 : (x.2 == 0) = false := by simpa using h1
    clear h h0 h1
    go_enter Tryz.func226, Tryz.ntmps226
    go_wp2_with fail
    have mixed : Tryz.prog.follows .mixedOrders = true := by kernel_rfl
    go_region_o
    all_goals
      go_wp2_with fail
      go_ret2
      exact ⟨by rw [F.out]; rfl, (Below.refl _ _).drew⟩
end Go.Proofs.YteiblfcehlibpaaGreatDoor
namespace Go.Proofs.YteiblfcehlibpaaGreatDoor
open Go.RowKit
/-- What was there is as it was, but for one block. -/
structure Only (g : Nat) (w w' : World) : Prop where
  os : w'.os = w.os
  tape : w'.tape = w.tape
  output : w'.output = w.output
  size : w.heap.size ≤ w'.heap.size
  block : ∀ k, k < w.heap.size → k ≠ g → w'.heap[k]? = w.heap[k]?
theorem Only.refl (g : Nat) (w : World) : Only g w w := ⟨rfl, rfl, rfl, Nat.le_refl _, fun _ _ _ => rfl⟩
theorem Only.of_below {w w' : World} (g : Nat) (h : Below w.heap.size w w') : Only g w w' := ⟨h.os, h.tape, h.output, h.size, fun k hk _ => h.block k hk⟩
theorem Only.trans {g : Nat} {a b c : World} (h : Only g a b) (k : Only g b c) : Only g a c :=
  ⟨k.os.trans h.os, k.tape.trans h.tape, k.output.trans h.output, Nat.le_trans h.size k.size, fun j hj hn => (k.block j (Nat.lt_of_lt_of_le hj h.size) hn).trans (h.block j hj hn)⟩
theorem Only.below {g B : Nat} {w w' : World} (h : Only g w w') (hB : B ≤ g) (hw : B ≤ w.heap.size) : Below B w w' :=
  ⟨h.os, h.tape, h.output, h.size, fun k hk => h.block k (by omega) (by omega)⟩
theorem Only.blk {g k t : Nat} {cs : Array Value} {w w' : World} (h : Only g w w') (hk : isBlk w k t cs) (hn : k ≠ g) : isBlk w' k t cs := (h.block k hk.lt hn).trans hk
theorem Only.set (g j : Nat) (u : Value) (w : World) : Only g w (w.setCell ⟨g, j, none⟩ u) := ⟨rfl, rfl, rfl, by simp, fun k _ hn => Below.heap_setCell _ _ _ _ hn⟩
theorem Only.drew {g : Nat} {w w' : World} (h : Only g w w') : Only g w w'.drew := ⟨h.os, h.tape, h.output, h.size, h.block⟩
/-- The reference's writer in memory. -/
abbrev isRW (w : World) (g : Nat) (x : Sp.W) : Prop := isBlk w g 199 #[.string (strOf x.1), .int .i64 x.2]
theorem isRW.set (x : Sp.W) (w : World) (g : Nat) (h : isRW w g x) (l : List UInt8) (e : Int) : isRW (w.setCell ⟨g, 0, none⟩ (.string (strOf l))) g (l, x.2) ∧ isRW (w.setCell ⟨g, 1, none⟩ (.int .i64 e)) g (x.1, e) := ⟨h.put 0 _ rfl, h.put 1 _ rfl⟩
set_option maxRecDepth 100000 in
set_option maxHeartbeats 2000000 in
theorem rwfail_calls (g : Nat) (x : Sp.W) (e : Int) (w : World) (h : isRW w g x) :
    Calls Tryz.prog 189 #[.pointer (some ⟨g, 0, none⟩), .int .i64 e] w fun e' w' => e' = .returned (.tuple #[]) ∧ isRW w' g (Sp.wfail e x) ∧ Only g w w' := by
  have c1 := (h.cell 1).trans rfl
  have f1 := h.frozen 1
  by_cases h0 : x.2 = 0
  · have F := Lib.hid (show Sp.wfail e x = (x.1, e) from if_pos h0)
    have S := Lib.hid (isRW.set x w g h x.1 e).2
    rw [h0] at c1
    clear h h0
    go_enter Tryz.func189, Tryz.ntmps189
    go_wp2_with fail
    go_end0
    exact ⟨rfl, by rw [F.out]; exact S.out, Only.set _ _ _ _⟩
  · have F := Lib.hid (show Sp.wfail e x = x from if_neg h0)
    have e1 : (x.2 == 0) = false := by simpa using h0
    have H := Lib.hid h
    clear h h0
    go_enter Tryz.func189, Tryz.ntmps189
    go_wp2_with fail
    go_end0
    exact ⟨rfl, by rw [F.out]; exact H.out, Only.refl _ _⟩
set_option maxRecDepth 100000 in
set_option maxHeartbeats 2000000 in
theorem rwput_calls (g : Nat) (x : Sp.W) (is : Bool) (l : List UInt8) (w : World) (h : isRW w g x) (hlen : x.1.length + l.length ≤ 140737488355328) :
    Calls Tryz.prog 217 #[.pointer (some ⟨g, 0, none⟩), .bool is, .string (strOf l)] w fun e' w' => e' = .returned (.tuple #[]) ∧ isRW w' g (Sp.wput is l x) ∧ Only g w w' := by
  have c0 := (h.cell 0).trans rfl
  have c1 := (h.cell 1).trans rfl
  have f0 := h.frozen 0
  have f1 := h.frozen 1
  by_cases h0 : x.2 = 0
  · rw [h0] at c1
    cases is with
    | false =>
      have F := Lib.hid (show Sp.wput false l x = (x.1, 2) by unfold Sp.wput; rw [if_neg (by simp [h0])]; rfl)
      have S := Lib.hid (isRW.set x w g h x.1 2).2
      clear h h0
      go_enter Tryz.func217, Tryz.ntmps217
      go_wp2_with fail
      go_end0
      exact ⟨rfl, by rw [F.out]; exact S.out, Only.set _ _ _ _⟩
    | true =>
      have F := Lib.hid (show Sp.wput true l x = (x.1 ++ l, 0) by unfold Sp.wput; rw [if_neg (by simp [h0])]; rfl)
      have S := Lib.hid (isRW.set x w g h (x.1 ++ l) 0).1
      rw [h0] at S
      have a1 : strOf x.1 ++ strOf l = strOf (x.1 ++ l) := by rw [strOf_append, strOf_data]
      have s1 : (strOf x.1).size = x.1.length := strOf_size _
      have s2 : (strOf l).size = l.length := strOf_size _
      clear h h0
      go_enter Tryz.func217, Tryz.ntmps217
      go_wp2_with fail
      go_end0
      exact ⟨rfl, by rw [F.out]; exact S.out, Only.set _ _ _ _⟩
  · have F := Lib.hid (show Sp.wput is l x = x by unfold Sp.wput; rw [if_pos (by simpa using h0)])
    have e1 : (x.2 == 0) = false := by simpa using h0
    have e2 : (x.2 != 0) = true := by simpa using h0
    have H := Lib.hid h
    clear h h0
    go_enter Tryz.func217, Tryz.ntmps217
    go_wp2_with fail
    refine bodyPost_ret (results_none rfl _ _ _) rfl ?_
    exact ⟨rfl, by rw [F.out]; exact H.out, Only.refl _ _⟩
set_option maxRecDepth 100000 in
set_option maxHeartbeats 2000000 in
theorem rwnum_calls (g : Nat) (x : Sp.W) (n : Int) (w : World) (h : isRW w g x) (hlen : x.1.length ≤ 100000000000000) :
    Calls Tryz.prog 192 #[.pointer (some ⟨g, 0, none⟩), .int .i64 n] w fun e' w' => e' = .returned (.tuple #[]) ∧ isRW w' g (Sp.wnum n x) ∧ Only g w w' := by
  have P := Lib.hid (rput_calls n w)
  have PU := Lib.hid fun (W : World) (hb : Below w.heap.size w W) => rwput_calls g x (decide (0 ≤ n ∧ n ≤ 1073741824)) (Sp.put n) W (h.below hb) (by have := Sp.put_len n; omega)
  have F := Lib.hid (show Sp.wnum n x = Sp.wput (decide (0 ≤ n ∧ n ≤ 1073741824)) (Sp.put n) x from rfl)
  by_cases h0 : 0 ≤ n
  · have e0 : decide (0 ≤ n) = true := decide_eq_true h0
    rw [show decide (0 ≤ n ∧ n ≤ 1073741824) = decide (n ≤ 1073741824) by rw [decide_eq_decide]; omega] at F PU
    obtain ⟨b, hb⟩ : ∃ b, decide (n ≤ 1073741824) = b := ⟨_, rfl⟩
    rw [hb] at F PU
    clear h h0
    go_enter Tryz.func192, Tryz.ntmps192
    go_wp2_with (first
      | (go_at_call 218; refine P.out.mono ?_; rintro e w1 ⟨rfl, hb1⟩)
      | (go_at_call 217; refine (PU.out w1 hb1).mono ?_; rintro e w2 ⟨rfl, hw2, ho2⟩))
    go_end0
    exact ⟨rfl, by rw [F.out]; exact hw2, (Only.of_below g hb1).trans ho2⟩
  · have e0 : decide (0 ≤ n) = false := decide_eq_false h0
    rw [show decide (0 ≤ n ∧ n ≤ 1073741824) = false by rw [decide_eq_false_iff_not]; omega] at F PU
    clear h h0
    go_enter Tryz.func192, Tryz.ntmps192
    go_wp2_with (first
      | (go_at_call 218; refine P.out.mono ?_; rintro e w1 ⟨rfl, hb1⟩)
      | (go_at_call 217; refine (PU.out w1 hb1).mono ?_; rintro e w2 ⟨rfl, hw2, ho2⟩))
    go_end0
    exact ⟨rfl, by rw [F.out]; exact hw2, (Only.of_below g hb1).trans ho2⟩
set_option maxRecDepth 100000 in
set_option maxHeartbeats 2000000 in
theorem rwtext_calls (g : Nat) (x : Sp.W) (s : ByteArray) (w : World) (h : isRW w g x) (hlen : x.1.length ≤ 100000000000000) (hs : s.size < 4294967200) :
    Calls Tryz.prog 193 #[.pointer (some ⟨g, 0, none⟩), .string s] w fun e' w' => e' = .returned (.tuple #[]) ∧ isRW w' g (Sp.wtext s.data.toList x) ∧ Only g w w' := by
  have P := Lib.hid (rput_calls (s.size : Int) w)
  have hdl : s.data.toList.length = s.size := by simp
  have hp := Sp.put_len (s.size : Int)
  have PU := Lib.hid fun (W : World) (hb : Below w.heap.size w W) => rwput_calls g x (decide ((s.size : Int) ≤ 65536)) (Sp.put (s.size : Int) ++ s.data.toList) W (h.below hb) (by rw [List.length_append]; omega)
  have F := Lib.hid (show Sp.wtext s.data.toList x = Sp.wput (decide ((s.size : Int) ≤ 65536)) (Sp.put (s.size : Int) ++ s.data.toList) x by
    unfold Sp.wtext; rw [hdl, show decide ((s.size : Int) ≤ 65536) = decide (s.size ≤ 65536) by rw [decide_eq_decide]; omega])
  have a1 : strOf (Sp.put (s.size : Int)) ++ s = strOf (Sp.put (s.size : Int) ++ s.data.toList) := by
    have := strOf_append (strOf (Sp.put (s.size : Int))) s.data.toList
    rwa [strOf_self, strOf_data] at this
  have s1 : (strOf (Sp.put (s.size : Int))).size ≤ 5 := by rw [strOf_size]; exact hp
  obtain ⟨p, hpp⟩ : ∃ p, p = strOf (Sp.put (s.size : Int)) := ⟨_, rfl⟩
  rw [← hpp] at a1 s1 P
  obtain ⟨b, hb⟩ : ∃ b, decide ((s.size : Int) ≤ 65536) = b := ⟨_, rfl⟩
  rw [hb] at F PU
  clear h hdl hp hpp
  go_enter Tryz.func193, Tryz.ntmps193
  go_wp2_with (first
    | (go_at_call 218; refine P.out.mono ?_; rintro e w1 ⟨rfl, hb1⟩)
    | (go_at_call 217; refine (PU.out w1 hb1).mono ?_; rintro e w2 ⟨rfl, hw2, ho2⟩))
  go_end0
  exact ⟨rfl, by rw [F.out]; exact hw2, (Only.of_below g hb1).trans ho2⟩
set_option maxRecDepth 100000 in
set_option maxHeartbeats 1000000 in
theorem rwdone_calls (g : Nat) (x : Sp.W) (w : World) (h : isRW w g x) :
    Calls Tryz.prog 195 #[.pointer (some ⟨g, 0, none⟩)] w fun e' w' => e' = .returned (.tuple #[.string (strOf (Sp.wdone x).1), .int .i64 (Sp.wdone x).2]) ∧ Below w.heap.size w w' := by
  have c0 := (h.cell 0).trans rfl
  have c1 := (h.cell 1).trans rfl
  by_cases h1 : x.2 = 0
  · have F := Lib.hid (show Sp.wdone x = (x.1, 0) from if_pos h1)
    rw [h1] at c1
    clear h h1
    go_enter Tryz.func195, Tryz.ntmps195
    go_wp2_with fail
    first | (have mixed : Tryz.prog.follows .mixedOrders = true := by kernel_rfl
             go_region_o) | skip
    all_goals
      go_wp2_with fail
      go_ret2
      exact ⟨by rw [F.out]; rfl, Below.refl _ _⟩
  · have F := Lib.hid (show Sp.wdone x = ([], x.2) from if_neg h1)
    have e1 : (x.2 == 0) = false := by simpa using h1
    clear h h1
    go_enter Tryz.func195, Tryz.ntmps195
    go_wp2_with fail
    have mixed : Tryz.prog.follows .mixedOrders = true := by kernel_rfl
    go_region_o
    all_goals
      go_wp2_with fail
      go_ret2
      exact ⟨by rw [F.out]; rfl, (Below.refl _ _).drew⟩
end Go.Proofs.YteiblfcehlibpaaGreatDoor
namespace Go.Proofs.YteiblfcehlibpaaGreatDoor
namespace Sp
def wflag (b : Bool) (x : W) : W := wput true [if b then 1 else 0] x
def wdigest (d : Bs) (x : W) : W := wput true d x
def wdot (d : Dot) (x : W) : W := wnum d.2 (wnum d.1 x)
def wdots (l : List Dot) (x : W) : W := l.foldl (fun x d => wdot d x) x
def wvec (v : List Dot) (x : W) : W := if vcheck v ≠ 0 then wfail (vcheck v) x else wdots v (wnum v.length x)
def wver (v : Ver) (x : W) : W := wtext v.data (wflag v.dead (wvec v.past (wdot v.dot x)))
def wvers (l : List Ver) (x : W) : W := l.foldl (fun x v => wver v x) x
def wleaf (l : List Ver) (x : W) : W := if leaf l ≠ 0 then wfail (leaf l) x else wvers l (wnum l.length x)
theorem wflag_len (b : Bool) (x : W) : (wflag b x).1.length ≤ x.1.length + 1 := by have := wput_len true [if b then 1 else 0] x; unfold wflag; simpa using this
theorem wdot_len (d : Dot) (x : W) : (wdot d x).1.length ≤ x.1.length + 10 := by
  have := wnum_len d.2 (wnum d.1 x); have := wnum_len d.1 x; unfold wdot; omega
theorem wdots_len (l : List Dot) : ∀ x : W, (wdots l x).1.length ≤ x.1.length + 10 * l.length := by
  induction l with
  | nil => intro x; simp [wdots]
  | cons d r ih =>
    intro x
    have h1 := ih (wdot d x)
    have h2 := wdot_len d x
    unfold wdots at *
    rw [List.foldl_cons, List.length_cons]
    omega
theorem wdots_snoc (l : List Dot) (d : Dot) (x : W) : wdots (l ++ [d]) x = wdot d (wdots l x) := by simp [wdots]
theorem wvers_snoc (l : List Ver) (v : Ver) (x : W) : wvers (l ++ [v]) x = wver v (wvers l x) := by simp [wvers]
theorem vgo_len : ∀ (l : List Dot) (last : Int), -1 ≤ last → last ≤ 63 → vgo last l = 0 → (l.length : Int) ≤ 63 - last
  | [], last, _, _, _ => by simp; omega
  | d :: r, last, h1, h2, h => by
    rw [vgo] at h
    by_cases hd : dot d = 0
    · rw [if_neg (by simpa using hd)] at h
      by_cases hl : d.1 ≤ last
      · rw [if_pos hl] at h; cases h
      · rw [if_neg hl] at h
        have hd' := dot_ok.1 hd
        have := vgo_len r d.1 (by omega) (by omega) h
        rw [List.length_cons]
        omega
    · rw [if_pos hd] at h; exact absurd h hd
theorem vcheck_len {l : List Dot} (h : vcheck l = 0) : l.length ≤ 64 := by
  have := vgo_len l (-1) (by omega) (by omega) h
  omega
theorem wvec_len (v : List Dot) (x : W) : (wvec v x).1.length ≤ x.1.length + 645 := by
  unfold wvec
  split
  · rw [wfail_len]; omega
  · rename_i h
    have hl := vcheck_len (l := v) (by simpa using h)
    have h1 := wdots_len v (wnum v.length x)
    have h2 := wnum_len (v.length : Int) x
    omega
theorem wver_len (v : Ver) (x : W) : (wver v x).1.length ≤ x.1.length + (661 + v.data.length) := by
  have h1 := wtext_len v.data (wflag v.dead (wvec v.past (wdot v.dot x)))
  have h2 := wflag_len v.dead (wvec v.past (wdot v.dot x))
  have h3 := wvec_len v.past (wdot v.dot x)
  have h4 := wdot_len v.dot x
  unfold wver
  omega
theorem wvers_len (l : List Ver) (n : Nat) : (∀ v ∈ l, v.data.length ≤ n) → ∀ x : W, (wvers l x).1.length ≤ x.1.length + (661 + n) * l.length := by
  induction l with
  | nil => intro _ x; simp [wvers]
  | cons d r ih =>
    intro h x
    have h1 := ih (fun v hv => h v (by simp [hv])) (wver d x)
    have h2 := wver_len d x
    have h3 := h d (by simp)
    unfold wvers at *
    rw [List.foldl_cons, List.length_cons, Nat.mul_add]
    omega
theorem lgo_vers : ∀ (l : List Ver) (last : Option Int), lgo last l = 0 → ∀ v ∈ l, vercheck v = 0
  | [], _, _, _, hv => by cases hv
  | v :: r, last, h, u, hu => by
    rw [lgo] at h
    by_cases hd : vercheck v = 0
    · rw [if_neg (by simpa using hd)] at h
      by_cases hl : ∃ x, last = some x ∧ v.dot.1 ≤ x
      · rw [if_pos hl] at h; cases h
      · rw [if_neg hl] at h
        rcases List.mem_cons.1 hu with rfl | hu
        · exact hd
        · exact lgo_vers r _ h u hu
    · rw [if_pos hd] at h; exact absurd h hd
/-- What holds of a version that may be. -/
theorem vercheck_ok {v : Ver} (h : vercheck v = 0) : dot v.dot = 0 ∧ vcheck v.past = 0 ∧ vhas v.past v.dot = false ∧ v.data.length ≤ 48 ∧ (v.dead = true → v.data = []) := by
  unfold vercheck at h
  by_cases h1 : dot v.dot = 0
  · rw [if_neg (by simpa using h1)] at h
    by_cases h2 : vcheck v.past = 0
    · rw [if_neg (by simpa using h2)] at h
      by_cases h3 : vhas v.past v.dot = true
      · rw [if_pos h3] at h; cases h
      · rw [if_neg h3] at h
        by_cases h4 : 48 < v.data.length
        · rw [if_pos h4] at h; cases h
        · rw [if_neg h4] at h
          by_cases h5 : v.dead = true ∧ v.data ≠ []
          · rw [if_pos h5] at h; cases h
          · refine ⟨h1, h2, by simpa using h3, by omega, fun hd => ?_⟩
            exact Classical.byContradiction fun hn => h5 ⟨hd, hn⟩
    · rw [if_pos h2] at h; exact absurd h h2
  · rw [if_pos h1] at h; exact absurd h h1
/-- What holds of a leaf. -/
theorem leaf_ok {l : List Ver} (h : leaf l = 0) : l.length ≤ 64 ∧ lgo none l = 0 ∧ (l.any fun v => covered l v) = false := by
  unfold leaf at h
  by_cases h1 : 64 < l.length
  · rw [if_pos h1] at h; cases h
  · rw [if_neg h1] at h
    by_cases h2 : lgo none l = 0
    · rw [if_neg (by simpa using h2)] at h
      by_cases h3 : (l.any fun v => covered l v) = true
      · rw [if_pos h3] at h; cases h
      · exact ⟨by omega, h2, by simpa using h3⟩
    · rw [if_pos h2] at h; exact absurd h h2
theorem leaf_data {l : List Ver} (h : leaf l = 0) : ∀ v ∈ l, v.data.length ≤ 48 := fun v hv => (vercheck_ok (lgo_vers l none (leaf_ok h).2.1 v hv)).2.2.2.1
theorem wleaf_len (l : List Ver) (x : W) : (wleaf l x).1.length ≤ x.1.length + 45381 := by
  unfold wleaf
  split
  · rw [wfail_len]; omega
  · rename_i h
    have h' : leaf l = 0 := by simpa using h
    have h1 := wvers_len l 48 (leaf_data h') (wnum l.length x)
    have h2 := wnum_len (l.length : Int) x
    have h3 := (leaf_ok h').1
    have h4 : (661 + 48) * l.length ≤ (661 + 48) * 64 := Nat.mul_le_mul_left _ h3
    omega
end Sp
end Go.Proofs.YteiblfcehlibpaaGreatDoor
namespace Go.Proofs.YteiblfcehlibpaaGreatDoor
namespace Sp
def crcBit (v : Nat) : Nat := if v % 2 = 1 then (v / 2) ^^^ 3988292384 else v / 2
def crcBits : Nat → Nat → Nat
  | 0, v => v
  | n + 1, v => crcBit (crcBits n v)
def crcByte (v : Nat) (b : UInt8) : Nat := crcBits 8 (v ^^^ b.toNat)
def crcGo (l : List UInt8) : Nat := l.foldl crcByte 4294967295
def crc (l : List UInt8) : Nat := 4294967295 - crcGo l
theorem xor_lt {a b : Nat} (ha : a < 4294967296) (hb : b < 4294967296) : a ^^^ b < 4294967296 := Nat.xor_lt_two_pow (n := 32) ha hb
theorem crcBit_lt {v : Nat} (h : v < 4294967296) : crcBit v < 4294967296 := by
  unfold crcBit
  split
  · exact xor_lt (by omega) (by decide)
  · omega
theorem crcBits_lt {v : Nat} (h : v < 4294967296) : ∀ n, crcBits n v < 4294967296
  | 0 => h
  | n + 1 => crcBit_lt (crcBits_lt h n)
theorem crcByte_lt {v : Nat} {b : UInt8} (h : v < 4294967296) : crcByte v b < 4294967296 := crcBits_lt (xor_lt h (by have := b.toNat_lt; omega)) 8
theorem foldl_lt : ∀ (l : List UInt8) {v : Nat}, v < 4294967296 → l.foldl crcByte v < 4294967296
  | [], _, h => h
  | _ :: l, _, h => foldl_lt l (crcByte_lt h)
theorem crcGo_lt (l : List UInt8) : crcGo l < 4294967296 := foldl_lt l (by decide)
theorem crcGo_snoc (l : List UInt8) (b : UInt8) : crcGo (l ++ [b]) = crcByte (crcGo l) b := by simp [crcGo]
/-- The four bytes of a sum. -/
def le4 (v : Nat) : List UInt8 := [UInt8.ofNat v, UInt8.ofNat (v / 256), UInt8.ofNat (v / 65536), UInt8.ofNat (v / 16777216)]
def sealed (l : List UInt8) : List UInt8 := l ++ le4 (crc l)
/-- What is sealed, if anything is. -/
def opened (l : List UInt8) : Option (List UInt8) := if l.length < 4 then none else if sealed (l.take (l.length - 4)) = l then some (l.take (l.length - 4)) else none
end Sp
theorem wr32 (n : Int) (h0 : 0 ≤ n) (h1 : n < 2 ^ 32) : IntKind.u32.wrap n = n := by rw [IntKind.wrap_u32]; omega
theorem bits_xor_u32_nat (a b : Nat) (ha : a < 4294967296) (hb : b < 4294967296) : bits .xor .u32 (a : Int) (b : Int) = ((a ^^^ b : Nat) : Int) := by
  have h1 : (BitVec.ofInt 32 (a : Int)).toNat = a := by rw [BitVec.ofInt_natCast, BitVec.toNat_ofNat]; exact Nat.mod_eq_of_lt (by omega)
  have h2 : (BitVec.ofInt 32 (b : Int)).toNat = b := by rw [BitVec.ofInt_natCast, BitVec.toNat_ofNat]; exact Nat.mod_eq_of_lt (by omega)
  have h3 : a ^^^ b < 4294967296 := Nat.xor_lt_two_pow (n := 32) ha hb
  show IntKind.u32.wrap ((BitVec.ofInt 32 (a : Int) ^^^ BitVec.ofInt 32 (b : Int)).toNat : Int) = _
  rw [BitVec.toNat_xor, h1, h2, wr32 _ (Int.natCast_nonneg _) (by omega)]
theorem bits_and1_u32 (a : Nat) (ha : a < 4294967296) : bits .and .u32 (a : Int) 1 = ((a % 2 : Nat) : Int) := by
  have h := bits_mask .u32 32 (by decide) wr32 1 (by decide) a (by omega) (by omega)
  simpa using h
theorem xor_ones32 (b : Nat) (hb : b < 2 ^ 32) : (2 ^ 32 - 1) ^^^ b = 2 ^ 32 - 1 - b := by
  apply Nat.eq_of_testBit_eq
  intro i
  rw [Nat.testBit_xor, Nat.testBit_two_pow_sub_one, show 2 ^ 32 - 1 - b = 2 ^ 32 - (b + 1) by omega, Nat.testBit_two_pow_sub_succ hb]
  by_cases hi : i < 32
  · simp [hi]
  · have : b.testBit i = false := Nat.testBit_lt_two_pow (Nat.lt_of_lt_of_le hb (Nat.pow_le_pow_right (by decide) (by omega)))
    simp [hi, this]
end Go.Proofs.YteiblfcehlibpaaGreatDoor
