/- Walks: what a coder.Writer has put. Walks: the reference's writer, and its reader. Records as bytes: plain. What a sum of thirty-two bits is: plain. Digests: plain. Nodes: plain. Walks: the reference's leaves; leaves that are the same. -/
import Derived.Lib.EndianBits
import Derived.Laws.Cover1
import Derived.Test.YtmlfnidckfeebaaGreatDoorRF004
namespace Go.Proofs.YtmlfnidckfeebaaGreatDoor
open Go.RowKit
set_option maxRecDepth 100000 in
set_option maxHeartbeats 1000000 in
theorem bstr_calls (B g : Nat) (l : List UInt8) (e : Int) (w : World) (h : IsW B g l e w) (h0 : l ≠ []) :
    Calls Tryz.prog 193 #[.pointer (some ⟨g, 0, none⟩)] w fun e' w' => e' = .returned (.string (strOf l)) ∧ Below B w w' := by
  obtain ⟨hB, p, v, hp, hblk, hown, hne⟩ := h
  have hl0 : l.length ≠ 0 := by simpa using h0
  obtain ⟨k, cap, cur, rfl, hbg, hg, hnc, hcm, hcs, htake⟩ : ∃ k cap cur, v = .slice (some ⟨k, 0, none⟩) l.length cap ∧ B ≤ k ∧ w.heap[k]? = some (.cells cur 5 (0, 0)) ∧ l.length ≤ cap ∧ cap ≤ maxLen ∧ cur.size = cap * 1 ∧ cur.toList.take (l.length * 1) = l.map byteV := by
    rcases hown.2 with ⟨_, hz⟩ | ⟨k, cap, cur, hv, r⟩
    · exact absurd hz hl0
    · exact ⟨k, cap, cur, hv, r⟩
  have c1 : w.drew.cell? ⟨g, 1, none⟩ = some (.slice (some ⟨k, 0, none⟩) l.length cap) := (hblk.cell 1).trans rfl
  have hSD : (Builtin.unsafeSliceData_ #[172] 298 #[.slice (some ⟨k, 0, none⟩) l.length cap]).run Tryz.prog w.drew = .ok (.pointer (some ⟨k, 0, none⟩)) w.drew :=
    Lib.run_unsafeSliceData_row _ _ _ _ _ _ (by omega)
  have hUS : (Builtin.unsafeString_ #[298, 3] 9 #[.pointer (some ⟨k, 0, none⟩), .int .i64 l.length]).run Tryz.prog w.drew = .ok (.string (strOf l)) (w.drew.freeze ⟨k, 0, none⟩ l.length) := by
    refine Lib.run_unsafeString_row w.drew 298 3 9 5 Tryz.underlying298 (by kernel_rfl) k cur.size (by have hg' : w.drew.heap[k]? = some (.cells cur 5 (0, 0)) := hg; simp [World.shape?, hg']) l h0 (by omega) (by unfold maxLen at hcm; omega) ?_
    intro j x hx
    have := hown.cells (g := k) rfl j (.int .u8 x.toNat) (by simp [byteV, hx])
    exact this
  clear hown hp htake hcs hcm hnc
  have HG := Lib.hid hg
  clear hg h0 hl0 hblk hne
  go_enter Tryz.func193, Tryz.ntmps193
  go_wp2
  have mixed : Tryz.prog.follows .mixedOrders = true := by kernel_rfl
  go_region_o
  all_goals (go_wp2; go_ret; exact ⟨rfl, Lib.below_freeze (Below.drew (Below.refl B w)) (p := ⟨k, 0, none⟩) hbg _⟩)
set_option maxRecDepth 100000 in
set_option maxHeartbeats 1000000 in
theorem wdone_calls (B g : Nat) (x : Sp.W) (w : World) (h : IsWr B g x w) (h0 : x.2 = 0 → x.1 ≠ []) :
    Calls Tryz.prog 125 #[.pointer (some ⟨g, 0, none⟩)] w fun e' w' => e' = .returned (.tuple #[.string (strOf (Sp.wdone x).1), .int .i64 (Sp.wdone x).2]) ∧ Below B w w' := by
  obtain ⟨c2, f2⟩ := h.cell
  by_cases h1 : x.2 = 0
  · have F := Lib.hid (show Sp.wdone x = (x.1, 0) from if_pos h1)
    have C := Lib.hid (bstr_calls B g x.1 x.2 w h (h0 h1))
    rw [h1] at c2
    clear h h0 h1
    go_enter Tryz.func125, Tryz.ntmps125
    go_wp2_with (go_at_call 193; refine C.out.mono ?_; rintro e w1 ⟨rfl, hb1⟩)
    go_ret2
    exact ⟨by rw [F.out]; rfl, hb1⟩
  · have F := Lib.hid (show Sp.wdone x = ([], x.2) from if_neg h1)
    have e1 : (x.2 == 0) = false := by simpa using h1
    clear h h0 h1
    go_enter Tryz.func125, Tryz.ntmps125
    go_wp2_with fail
    have mixed : Tryz.prog.follows .mixedOrders = true := by kernel_rfl
    go_region_o
    all_goals
      go_wp2_with fail
      go_ret2
      exact ⟨by rw [F.out]; rfl, (Below.refl _ _).drew⟩
structure Only (g : Nat) (w w' : World) : Prop where
  os : w'.os = w.os
  tape : w'.tape = w.tape
  output : w'.output = w.output
  size : w.heap.size ≤ w'.heap.size
  block : ∀ k, k < w.heap.size → k ≠ g → w'.heap[k]? = w.heap[k]?
theorem Only.refl (g : Nat) (w : World) : Only g w w := ⟨rfl, rfl, rfl, Nat.le_refl _, fun _ _ _ => rfl⟩
theorem Only.of_below {w w' : World} (g : Nat) (h : Below w.heap.size w w') : Only g w w' := ⟨h.os, h.tape, h.output, h.size, fun k hk _ => h.block k hk⟩
theorem Only.trans {g : Nat} {a b c : World} (h : Only g a b) (k : Only g b c) : Only g a c :=
  ⟨k.os.trans h.os, k.tape.trans h.tape, k.output.trans h.output, Nat.le_trans h.size k.size, fun j hj hn => (k.block j (Nat.lt_of_lt_of_le hj h.size) hn).trans (h.block j hj hn)⟩
theorem Only.below {g B : Nat} {w w' : World} (h : Only g w w') (hB : B ≤ g) (hw : B ≤ w.heap.size) : Below B w w' :=
  ⟨h.os, h.tape, h.output, h.size, fun k hk => h.block k (by omega) (by omega)⟩
theorem Only.blk {g k t : Nat} {cs : Array Value} {w w' : World} (h : Only g w w') (hk : isBlk w k t cs) (hn : k ≠ g) : isBlk w' k t cs := (h.block k hk.lt hn).trans hk
theorem Only.set (g j : Nat) (u : Value) (w : World) : Only g w (w.setCell ⟨g, j, none⟩ u) := ⟨rfl, rfl, rfl, by simp, fun k _ hn => Below.heap_setCell _ _ _ _ hn⟩
theorem Only.drew {g : Nat} {w w' : World} (h : Only g w w') : Only g w w'.drew := ⟨h.os, h.tape, h.output, h.size, h.block⟩
abbrev isRW (w : World) (g : Nat) (x : Sp.W) : Prop := isBlk w g 186 #[.string (strOf x.1), .int .i64 x.2]
theorem isRW.set (x : Sp.W) (w : World) (g : Nat) (h : isRW w g x) (l : List UInt8) (e : Int) : isRW (w.setCell ⟨g, 0, none⟩ (.string (strOf l))) g (l, x.2) ∧ isRW (w.setCell ⟨g, 1, none⟩ (.int .i64 e)) g (x.1, e) := ⟨h.put 0 _ rfl, h.put 1 _ rfl⟩
set_option maxRecDepth 100000 in
set_option maxHeartbeats 2000000 in
theorem rwfail_calls (g : Nat) (x : Sp.W) (e : Int) (w : World) (h : isRW w g x) :
    Calls Tryz.prog 136 #[.pointer (some ⟨g, 0, none⟩), .int .i64 e] w fun e' w' => e' = .returned (.tuple #[]) ∧ isRW w' g (Sp.wfail e x) ∧ Only g w w' := by
  have c1 := (h.cell 1).trans rfl
  have f1 := h.frozen 1
  by_cases h0 : x.2 = 0
  · have F := Lib.hid (show Sp.wfail e x = (x.1, e) from if_pos h0)
    have S := Lib.hid (isRW.set x w g h x.1 e).2
    rw [h0] at c1
    clear h h0
    go_enter Tryz.func136, Tryz.ntmps136
    go_wp2_with fail
    go_end0
    exact ⟨rfl, by rw [F.out]; exact S.out, Only.set _ _ _ _⟩
  · have F := Lib.hid (show Sp.wfail e x = x from if_neg h0)
    have e1 : (x.2 == 0) = false := by simpa using h0
    have H := Lib.hid h
    clear h h0
    go_enter Tryz.func136, Tryz.ntmps136
    go_wp2_with fail
    go_end0
    exact ⟨rfl, by rw [F.out]; exact H.out, Only.refl _ _⟩
set_option maxRecDepth 100000 in
set_option maxHeartbeats 2000000 in
theorem rwput_calls (g : Nat) (x : Sp.W) (is : Bool) (l : List UInt8) (w : World) (h : isRW w g x) (hlen : x.1.length + l.length ≤ 140737488355328) :
    Calls Tryz.prog 195 #[.pointer (some ⟨g, 0, none⟩), .bool is, .string (strOf l)] w fun e' w' => e' = .returned (.tuple #[]) ∧ isRW w' g (Sp.wput is l x) ∧ Only g w w' := by
  have c0 := (h.cell 0).trans rfl
  have c1 := (h.cell 1).trans rfl
  have f0 := h.frozen 0
  have f1 := h.frozen 1
  by_cases h0 : x.2 = 0
  · rw [h0] at c1
    cases is with
    | false =>
      have F := Lib.hid (show Sp.wput false l x = (x.1, 2) by unfold Sp.wput; rw [if_neg (by simp [h0])]; rfl)
      have S := Lib.hid (isRW.set x w g h x.1 2).2
      clear h h0
      go_enter Tryz.func195, Tryz.ntmps195
      go_wp2_with fail
      go_end0
      exact ⟨rfl, by rw [F.out]; exact S.out, Only.set _ _ _ _⟩
    | true =>
      have F := Lib.hid (show Sp.wput true l x = (x.1 ++ l, 0) by unfold Sp.wput; rw [if_neg (by simp [h0])]; rfl)
      have S := Lib.hid (isRW.set x w g h (x.1 ++ l) 0).1
      rw [h0] at S
      have a1 : strOf x.1 ++ strOf l = strOf (x.1 ++ l) := by rw [strOf_append, strOf_data]
      have s1 : (strOf x.1).size = x.1.length := strOf_size _
      have s2 : (strOf l).size = l.length := strOf_size _
      clear h h0
      go_enter Tryz.func195, Tryz.ntmps195
      go_wp2_with fail
      go_end0
      exact ⟨rfl, by rw [F.out]; exact S.out, Only.set _ _ _ _⟩
  · have F := Lib.hid (show Sp.wput is l x = x by unfold Sp.wput; rw [if_pos (by simpa using h0)])
    have e1 : (x.2 == 0) = false := by simpa using h0
    have e2 : (x.2 != 0) = true := by simpa using h0
    have H := Lib.hid h
    clear h h0
    go_enter Tryz.func195, Tryz.ntmps195
    go_wp2_with fail
    refine bodyPost_ret (results_none rfl _ _ _) rfl ?_
    exact ⟨rfl, by rw [F.out]; exact H.out, Only.refl _ _⟩
set_option maxRecDepth 100000 in
set_option maxHeartbeats 2000000 in
theorem rwnum_calls (g : Nat) (x : Sp.W) (n : Int) (w : World) (h : isRW w g x) (hlen : x.1.length ≤ 100000000000000) :
    Calls Tryz.prog 127 #[.pointer (some ⟨g, 0, none⟩), .int .i64 n] w fun e' w' => e' = .returned (.tuple #[]) ∧ isRW w' g (Sp.wnum n x) ∧ Only g w w' := by
  have P := Lib.hid (rput_calls n w)
  have PU := Lib.hid fun (W : World) (hb : Below w.heap.size w W) => rwput_calls g x (decide (0 ≤ n ∧ n ≤ 1073741824)) (Sp.put n) W (h.below hb) (by have := Sp.put_len n; omega)
  have F := Lib.hid (show Sp.wnum n x = Sp.wput (decide (0 ≤ n ∧ n ≤ 1073741824)) (Sp.put n) x from rfl)
  by_cases h0 : 0 ≤ n
  · have e0 : decide (0 ≤ n) = true := decide_eq_true h0
    rw [show decide (0 ≤ n ∧ n ≤ 1073741824) = decide (n ≤ 1073741824) by rw [decide_eq_decide]; omega] at F PU
    obtain ⟨b, hb⟩ : ∃ b, decide (n ≤ 1073741824) = b := ⟨_, rfl⟩
    rw [hb] at F PU
    clear h h0
    go_enter Tryz.func127, Tryz.ntmps127
    go_wp2_with (first
      | (go_at_call 196; refine P.out.mono ?_; rintro e w1 ⟨rfl, hb1⟩)
      | (go_at_call 195; refine (PU.out w1 hb1).mono ?_; rintro e w2 ⟨rfl, hw2, ho2⟩))
    go_end0
    exact ⟨rfl, by rw [F.out]; exact hw2, (Only.of_below g hb1).trans ho2⟩
  · have e0 : decide (0 ≤ n) = false := decide_eq_false h0
    rw [show decide (0 ≤ n ∧ n ≤ 1073741824) = false by rw [decide_eq_false_iff_not]; omega] at F PU
    clear h h0
    go_enter Tryz.func127, Tryz.ntmps127
    go_wp2_with (first
      | (go_at_call 196; refine P.out.mono ?_; rintro e w1 ⟨rfl, hb1⟩)
      | (go_at_call 195; refine (PU.out w1 hb1).mono ?_; rintro e w2 ⟨rfl, hw2, ho2⟩))
    go_end0
    exact ⟨rfl, by rw [F.out]; exact hw2, (Only.of_below g hb1).trans ho2⟩
set_option maxRecDepth 100000 in
set_option maxHeartbeats 2000000 in
theorem rwtext_calls (g : Nat) (x : Sp.W) (s : ByteArray) (w : World) (h : isRW w g x) (hlen : x.1.length ≤ 100000000000000) (hs : s.size < 4294967200) :
    Calls Tryz.prog 197 #[.pointer (some ⟨g, 0, none⟩), .string s] w fun e' w' => e' = .returned (.tuple #[]) ∧ isRW w' g (Sp.wtext s.data.toList x) ∧ Only g w w' := by
  have P := Lib.hid (rput_calls (s.size : Int) w)
  have hdl : s.data.toList.length = s.size := by simp
  have hp := Sp.put_len (s.size : Int)
  have PU := Lib.hid fun (W : World) (hb : Below w.heap.size w W) => rwput_calls g x (decide ((s.size : Int) ≤ 65536)) (Sp.put (s.size : Int) ++ s.data.toList) W (h.below hb) (by rw [List.length_append]; omega)
  have F := Lib.hid (show Sp.wtext s.data.toList x = Sp.wput (decide ((s.size : Int) ≤ 65536)) (Sp.put (s.size : Int) ++ s.data.toList) x by
    unfold Sp.wtext; rw [hdl, show decide ((s.size : Int) ≤ 65536) = decide (s.size ≤ 65536) by rw [decide_eq_decide]; omega])
  have a1 : strOf (Sp.put (s.size : Int)) ++ s = strOf (Sp.put (s.size : Int) ++ s.data.toList) := by
    have := strOf_append (strOf (Sp.put (s.size : Int))) s.data.toList
    rwa [strOf_self, strOf_data] at this
  have s1 : (strOf (Sp.put (s.size : Int))).size ≤ 5 := by rw [strOf_size]; exact hp
  obtain ⟨p, hpp⟩ : ∃ p, p = strOf (Sp.put (s.size : Int)) := ⟨_, rfl⟩
  rw [← hpp] at a1 s1 P
  obtain ⟨b, hb⟩ : ∃ b, decide ((s.size : Int) ≤ 65536) = b := ⟨_, rfl⟩
  rw [hb] at F PU
  clear h hdl hp hpp
  go_enter Tryz.func197, Tryz.ntmps197
  go_wp2_with (first
    | (go_at_call 196; refine P.out.mono ?_; rintro e w1 ⟨rfl, hb1⟩)
    | (go_at_call 195; refine (PU.out w1 hb1).mono ?_; rintro e w2 ⟨rfl, hw2, ho2⟩))
  go_end0
  exact ⟨rfl, by rw [F.out]; exact hw2, (Only.of_below g hb1).trans ho2⟩
set_option maxRecDepth 100000 in
set_option maxHeartbeats 1000000 in
theorem rwdone_calls (g : Nat) (x : Sp.W) (w : World) (h : isRW w g x) :
    Calls Tryz.prog 130 #[.pointer (some ⟨g, 0, none⟩)] w fun e' w' => e' = .returned (.tuple #[.string (strOf (Sp.wdone x).1), .int .i64 (Sp.wdone x).2]) ∧ Below w.heap.size w w' := by
  have c0 := (h.cell 0).trans rfl
  have c1 := (h.cell 1).trans rfl
  by_cases h1 : x.2 = 0
  · have F := Lib.hid (show Sp.wdone x = (x.1, 0) from if_pos h1)
    rw [h1] at c1
    clear h h1
    go_enter Tryz.func130, Tryz.ntmps130
    go_wp2_with fail
    first | (have mixed : Tryz.prog.follows .mixedOrders = true := by kernel_rfl
             go_region_o) | skip
    all_goals
      go_wp2_with fail
      go_ret2
      exact ⟨by rw [F.out]; rfl, Below.refl _ _⟩
  · have F := Lib.hid (show Sp.wdone x = ([], x.2) from if_neg h1)
    have e1 : (x.2 == 0) = false := by simpa using h1
    clear h h1
    go_enter Tryz.func130, Tryz.ntmps130
    go_wp2_with fail
    have mixed : Tryz.prog.follows .mixedOrders = true := by kernel_rfl
    go_region_o
    all_goals
      go_wp2_with fail
      go_ret2
      exact ⟨by rw [F.out]; rfl, (Below.refl _ _).drew⟩
end Go.Proofs.YtmlfnidckfeebaaGreatDoor
namespace Go.Proofs.YtmlfnidckfeebaaGreatDoor
namespace Sp
def wflag (b : Bool) (x : W) : W := wput true [if b then 1 else 0] x
def wdigest (d : Bs) (x : W) : W := wput true d x
def wdot (d : Dot) (x : W) : W := wnum d.2 (wnum d.1 x)
def wdots (l : List Dot) (x : W) : W := l.foldl (fun x d => wdot d x) x
def wvec (v : List Dot) (x : W) : W := if vcheck v ≠ 0 then wfail (vcheck v) x else wdots v (wnum v.length x)
def wver (v : Ver) (x : W) : W := wtext v.data (wflag v.dead (wvec v.past (wdot v.dot x)))
def wvers (l : List Ver) (x : W) : W := l.foldl (fun x v => wver v x) x
def wleaf (l : List Ver) (x : W) : W := if leaf l ≠ 0 then wfail (leaf l) x else wvers l (wnum l.length x)
theorem wflag_len (b : Bool) (x : W) : (wflag b x).1.length ≤ x.1.length + 1 := by have := wput_len true [if b then 1 else 0] x; unfold wflag; simpa using this
theorem wdot_len (d : Dot) (x : W) : (wdot d x).1.length ≤ x.1.length + 10 := by
  have := wnum_len d.2 (wnum d.1 x); have := wnum_len d.1 x; unfold wdot; omega
theorem wdots_len (l : List Dot) : ∀ x : W, (wdots l x).1.length ≤ x.1.length + 10 * l.length := by
  induction l with
  | nil => intro x; simp [wdots]
  | cons d r ih =>
    intro x
    have h1 := ih (wdot d x)
    have h2 := wdot_len d x
    unfold wdots at *
    rw [List.foldl_cons, List.length_cons]
    omega
theorem wdots_snoc (l : List Dot) (d : Dot) (x : W) : wdots (l ++ [d]) x = wdot d (wdots l x) := by simp [wdots]
theorem wvers_snoc (l : List Ver) (v : Ver) (x : W) : wvers (l ++ [v]) x = wver v (wvers l x) := by simp [wvers]
theorem vgo_len : ∀ (l : List Dot) (last : Int), -1 ≤ last → last ≤ 63 → vgo last l = 0 → (l.length : Int) ≤ 63 - last
  | [], last, _, _, _ => by simp; omega
  | d :: r, last, h1, h2, h => by
    rw [vgo] at h
    by_cases hd : dot d = 0
    · rw [if_neg (by simpa using hd)] at h
      by_cases hl : d.1 ≤ last
      · rw [if_pos hl] at h; cases h
      · rw [if_neg hl] at h
        have hd' := dot_ok.1 hd
        have := vgo_len r d.1 (by omega) (by omega) h
        rw [List.length_cons]
        omega
    · rw [if_pos hd] at h; exact absurd h hd
theorem vcheck_len {l : List Dot} (h : vcheck l = 0) : l.length ≤ 64 := by
  have := vgo_len l (-1) (by omega) (by omega) h
  omega
theorem wvec_len (v : List Dot) (x : W) : (wvec v x).1.length ≤ x.1.length + 645 := by
  unfold wvec
  split
  · rw [wfail_len]; omega
  · rename_i h
    have hl := vcheck_len (l := v) (by simpa using h)
    have h1 := wdots_len v (wnum v.length x)
    have h2 := wnum_len (v.length : Int) x
    omega
theorem wver_len (v : Ver) (x : W) : (wver v x).1.length ≤ x.1.length + (661 + v.data.length) := by
  have h1 := wtext_len v.data (wflag v.dead (wvec v.past (wdot v.dot x)))
  have h2 := wflag_len v.dead (wvec v.past (wdot v.dot x))
  have h3 := wvec_len v.past (wdot v.dot x)
  have h4 := wdot_len v.dot x
  unfold wver
  omega
theorem wvers_len (l : List Ver) (n : Nat) : (∀ v ∈ l, v.data.length ≤ n) → ∀ x : W, (wvers l x).1.length ≤ x.1.length + (661 + n) * l.length := by
  induction l with
  | nil => intro _ x; simp [wvers]
  | cons d r ih =>
    intro h x
    have h1 := ih (fun v hv => h v (by simp [hv])) (wver d x)
    have h2 := wver_len d x
    have h3 := h d (by simp)
    unfold wvers at *
    rw [List.foldl_cons, List.length_cons, Nat.mul_add]
    omega
theorem lgo_vers : ∀ (l : List Ver) (last : Option Int), lgo last l = 0 → ∀ v ∈ l, vercheck v = 0
  | [], _, _, _, hv => by cases hv
  | v :: r, last, h, u, hu => by
    rw [lgo] at h
    by_cases hd : vercheck v = 0
    · rw [if_neg (by simpa using hd)] at h
      by_cases hl : ∃ x, last = some x ∧ v.dot.1 ≤ x
      · rw [if_pos hl] at h; cases h
      · rw [if_neg hl] at h
        rcases List.mem_cons.1 hu with rfl | hu
        · exact hd
        · exact lgo_vers r _ h u hu
    · rw [if_pos hd] at h; exact absurd h hd
theorem vercheck_ok {v : Ver} (h : vercheck v = 0) : dot v.dot = 0 ∧ vcheck v.past = 0 ∧ vhas v.past v.dot = false ∧ v.data.length ≤ 48 ∧ (v.dead = true → v.data = []) := by
  unfold vercheck at h
  by_cases h1 : dot v.dot = 0
  · rw [if_neg (by simpa using h1)] at h
    by_cases h2 : vcheck v.past = 0
    · rw [if_neg (by simpa using h2)] at h
      by_cases h3 : vhas v.past v.dot = true
      · rw [if_pos h3] at h; cases h
      · rw [if_neg h3] at h
        by_cases h4 : 48 < v.data.length
        · rw [if_pos h4] at h; cases h
        · rw [if_neg h4] at h
          by_cases h5 : v.dead = true ∧ v.data ≠ []
          · rw [if_pos h5] at h; cases h
          · refine ⟨h1, h2, by simpa using h3, by omega, fun hd => ?_⟩
            exact Classical.byContradiction fun hn => h5 ⟨hd, hn⟩
    · rw [if_pos h2] at h; exact absurd h h2
  · rw [if_pos h1] at h; exact absurd h h1
theorem leaf_ok {l : List Ver} (h : leaf l = 0) : l.length ≤ 64 ∧ lgo none l = 0 ∧ (l.any fun v => covered l v) = false := by
  unfold leaf at h
  by_cases h1 : 64 < l.length
  · rw [if_pos h1] at h; cases h
  · rw [if_neg h1] at h
    by_cases h2 : lgo none l = 0
    · rw [if_neg (by simpa using h2)] at h
      by_cases h3 : (l.any fun v => covered l v) = true
      · rw [if_pos h3] at h; cases h
      · exact ⟨by omega, h2, by simpa using h3⟩
    · rw [if_pos h2] at h; exact absurd h h2
theorem leaf_data {l : List Ver} (h : leaf l = 0) : ∀ v ∈ l, v.data.length ≤ 48 := fun v hv => (vercheck_ok (lgo_vers l none (leaf_ok h).2.1 v hv)).2.2.2.1
theorem wleaf_len (l : List Ver) (x : W) : (wleaf l x).1.length ≤ x.1.length + 45381 := by
  unfold wleaf
  split
  · rw [wfail_len]; omega
  · rename_i h
    have h' : leaf l = 0 := by simpa using h
    have h1 := wvers_len l 48 (leaf_data h') (wnum l.length x)
    have h2 := wnum_len (l.length : Int) x
    have h3 := (leaf_ok h').1
    have h4 : (661 + 48) * l.length ≤ (661 + 48) * 64 := Nat.mul_le_mul_left _ h3
    omega
end Sp
theorem wr32 (n : Int) (h0 : 0 ≤ n) (h1 : n < 2 ^ 32) : IntKind.u32.wrap n = n := by rw [IntKind.wrap_u32]; omega
end Go.Proofs.YtmlfnidckfeebaaGreatDoor
namespace Go.Proofs.YtmlfnidckfeebaaGreatDoor
open Go.RowKit
namespace Sp
def keys : List UInt32 := [
    0x428a2f98, 0x71374491, 0xb5c0fbcf, 0xe9b5dba5, 0x3956c25b, 0x59f111f1, 0x923f82a4, 0xab1c5ed5,
    0xd807aa98, 0x12835b01, 0x243185be, 0x550c7dc3, 0x72be5d74, 0x80deb1fe, 0x9bdc06a7, 0xc19bf174,
    0xe49b69c1, 0xefbe4786, 0x0fc19dc6, 0x240ca1cc, 0x2de92c6f, 0x4a7484aa, 0x5cb0a9dc, 0x76f988da,
    0x983e5152, 0xa831c66d, 0xb00327c8, 0xbf597fc7, 0xc6e00bf3, 0xd5a79147, 0x06ca6351, 0x14292967,
    0x27b70a85, 0x2e1b2138, 0x4d2c6dfc, 0x53380d13, 0x650a7354, 0x766a0abb, 0x81c2c92e, 0x92722c85,
    0xa2bfe8a1, 0xa81a664b, 0xc24b8b70, 0xc76c51a3, 0xd192e819, 0xd6990624, 0xf40e3585, 0x106aa070,
    0x19a4c116, 0x1e376c08, 0x2748774c, 0x34b0bcb5, 0x391c0cb3, 0x4ed8aa4a, 0x5b9cca4f, 0x682e6ff3,
    0x748f82ee, 0x78a5636f, 0x84c87814, 0x8cc70208, 0x90befffa, 0xa4506ceb, 0xbef9a3f7, 0xc67178f2]
theorem keys_len : keys.length = 64 := rfl
def start : List UInt32 := [0x6a09e667, 0xbb67ae85, 0x3c6ef372, 0xa54ff53a, 0x510e527f, 0x9b05688c, 0x1f83d9ab, 0x5be0cd19]
def rotr (x : UInt32) (n : Nat) : UInt32 := (x >>> UInt32.ofNat n) ||| (x <<< UInt32.ofNat (32 - n))
def lowS (x : UInt32) : UInt32 := rotr x 7 ^^^ rotr x 18 ^^^ (x >>> 3)
def highS (x : UInt32) : UInt32 := rotr x 17 ^^^ rotr x 19 ^^^ (x >>> 10)
def be (b : Bs) (i : Nat) : UInt32 := (b.getD (4 * i) 0).toUInt32 <<< 24 ||| (b.getD (4 * i + 1) 0).toUInt32 <<< 16 ||| (b.getD (4 * i + 2) 0).toUInt32 <<< 8 ||| (b.getD (4 * i + 3) 0).toUInt32
def first (b : Bs) (n : Nat) : List UInt32 := (List.range n).map (be b)
def next (l : List UInt32) : UInt32 := l.getD (l.length - 16) 0 + lowS (l.getD (l.length - 15) 0) + l.getD (l.length - 7) 0 + highS (l.getD (l.length - 2) 0)
def sched (b : Bs) : Nat → List UInt32
  | 0 => first b 16
  | n + 1 => sched b n ++ [next (sched b n)]
theorem first_len (b : Bs) (n : Nat) : (first b n).length = n := by simp [first]
theorem sched_len (b : Bs) : ∀ n, (sched b n).length = 16 + n
  | 0 => first_len b 16
  | n + 1 => by rw [sched, List.length_append, sched_len b n]; rfl
def rnd : List UInt32 → UInt32 → UInt32 → List UInt32
  | [a, b, c, d, e, f, g, h], k, w =>
    [(h + (rotr e 6 ^^^ rotr e 11 ^^^ rotr e 25) + ((e &&& f) ^^^ (~~~e &&& g)) + k + w) + ((rotr a 2 ^^^ rotr a 13 ^^^ rotr a 22) + ((a &&& b) ^^^ (a &&& c) ^^^ (b &&& c))), a, b, c,
      d + (h + (rotr e 6 ^^^ rotr e 11 ^^^ rotr e 25) + ((e &&& f) ^^^ (~~~e &&& g)) + k + w), e, f, g]
  | l, _, _ => l
def rnds (w : List UInt32) (h : List UInt32) (n : Nat) : List UInt32 := ((keys.zip w).take n).foldl (fun l kw => rnd l kw.1 kw.2) h
def mix (h : List UInt32) (b : Bs) : List UInt32 := List.zipWith (· + ·) (rnds (sched b 48) h 64) h
def mixN : Nat → List UInt32 → Bs → List UInt32
  | 0, h, _ => h
  | n + 1, h, l => mixN n (mix h (l.take 64)) (l.drop 64)
def be8 (n : Nat) : Bs := (List.range 8).map fun i => UInt8.ofNat (n / 2 ^ (56 - 8 * i))
def padding (n m : Nat) : Bs := 128 :: List.replicate ((119 - n % 64) % 64) 0 ++ be8 (m * 8)
def pad (l : Bs) : Bs := l ++ padding l.length l.length
def digest (h : List UInt32) : Bs := h.flatMap fun x => [UInt8.ofNat (x.toNat / 16777216), UInt8.ofNat (x.toNat / 65536), UInt8.ofNat (x.toNat / 256), UInt8.ofNat x.toNat]
def sha (l : Bs) : Bs := digest (mixN ((pad l).length / 64) start (pad l))
theorem rnd_len (l : List UInt32) (k w : UInt32) (h : l.length = 8) : (rnd l k w).length = 8 := by
  match l, h with
  | [a, b, c, d, e, f, g, x], _ => rfl
theorem rnds_len (w h : List UInt32) (n : Nat) (hh : h.length = 8) : (rnds w h n).length = 8 := by
  unfold rnds
  generalize (keys.zip w).take n = l
  induction l generalizing h with
  | nil => exact hh
  | cons x r ih => exact ih _ (rnd_len _ _ _ hh)
theorem rnds_succ (w h : List UInt32) (n : Nat) (hw : w.length = 64) (hn : n < 64) : rnds w h (n + 1) = rnd (rnds w h n) (keys.getD n 0) (w.getD n 0) := by
  unfold rnds
  have hl : n < (keys.zip w).length := by rw [List.length_zip, keys_len, hw]; exact hn
  rw [List.take_succ_eq_append_getElem hl, List.foldl_append]
  simp [List.getD_eq_getElem?_getD, List.getElem?_eq_getElem (show n < keys.length from hn), List.getElem?_eq_getElem (show n < w.length by omega)]
theorem mix_len (h : List UInt32) (b : Bs) (hh : h.length = 8) : (mix h b).length = 8 := by
  unfold mix; rw [List.length_zipWith, rnds_len _ _ _ hh, hh]; rfl
theorem mixN_len : ∀ (n : Nat) (h : List UInt32) (l : Bs), h.length = 8 → (mixN n h l).length = 8
  | 0, _, _, hh => hh
  | n + 1, h, _, hh => mixN_len n _ _ (mix_len h _ hh)
theorem mixN_snoc : ∀ (n : Nat) (h : List UInt32) (l : Bs), mixN (n + 1) h l = mix (mixN n h l) ((l.drop (64 * n)).take 64)
  | 0, h, l => by simp [mixN]
  | n + 1, h, l => by
    rw [mixN, mixN_snoc n, mixN, List.drop_drop]
    congr 3
    omega
theorem mixN_add (a : Nat) : ∀ (b : Nat) (h : List UInt32) (l : Bs), mixN (b + a) h l = mixN a (mixN b h l) (l.drop (64 * b))
  | 0, h, l => by simp [mixN]
  | b + 1, h, l => by
    rw [show b + 1 + a = (b + a) + 1 by omega, mixN, mixN_add a b, mixN, List.drop_drop]
    congr 2
    omega
theorem mixN_pre : ∀ (n : Nat) (h : List UInt32) (l m : Bs), 64 * n ≤ l.length → mixN n h (l ++ m) = mixN n h l
  | 0, _, _, _, _ => rfl
  | n + 1, h, l, m, hl => by
    rw [mixN, mixN, List.take_append_of_le_length (by omega), List.drop_append_of_le_length (by omega)]
    exact mixN_pre n _ _ _ (by rw [List.length_drop]; omega)
theorem be8_len (n : Nat) : (be8 n).length = 8 := by simp [be8]
theorem padding_len (n m : Nat) : (padding n m).length = 9 + (119 - n % 64) % 64 := by
  unfold padding; rw [List.length_append, List.length_cons, List.length_replicate, be8_len]; omega
theorem pad_len (l : Bs) : (pad l).length % 64 = 0 := by
  unfold pad; rw [List.length_append, padding_len]; omega
theorem digest_len (h : List UInt32) : (digest h).length = h.length * 4 := by
  induction h with
  | nil => rfl
  | cons x r ih => unfold digest at *; rw [List.flatMap_cons, List.length_append, ih, List.length_cons]; simp; omega
theorem sha_len (l : Bs) : (sha l).length = 32 := by
  unfold sha; rw [digest_len, mixN_len _ _ _ rfl]
end Sp
def wd (x : UInt32) : Int := (x.toNat : Int)
abbrev wordV (x : UInt32) : Value := .int .u32 (wd x)
def wordsC (l : List UInt32) : Array Value := (l.map wordV).toArray
theorem wordsC_size (l : List UInt32) : (wordsC l).size = l.length := by simp [wordsC]
theorem wordsC_get (l : List UInt32) (i : Nat) (h : i < l.length) : (wordsC l)[i]? = some (wordV (l.getD i 0)) := by simp [wordsC, h]
theorem wordsC_set (l : List UInt32) (i : Nat) (x : UInt32) : (wordsC l).setIfInBounds i (wordV x) = wordsC (l.set i x) := by
  apply Array.ext'
  simp [wordsC, List.map_set]
theorem wordsC_one (l : List UInt32) : (wordsC l).all (·.oneCell') = true := by
  simp [wordsC, Value.oneCell']
theorem w32 (n : Int) : IntKind.u32.wrap n = n % 4294967296 := by rw [IntKind.wrap_u32]
theorem w_add (x y : UInt32) : IntKind.u32.wrap (wd x + wd y) = wd (x + y) := by
  unfold wd; rw [w32, UInt32.toNat_add]; omega
theorem bits32 (x : UInt32) : (BitVec.ofInt 32 (wd x)) = x.toBitVec := by
  apply BitVec.eq_of_toNat_eq
  unfold wd
  rw [BitVec.ofInt_natCast, BitVec.toNat_ofNat]
  exact Nat.mod_eq_of_lt x.toNat_lt
theorem w_lt (x : UInt32) : 0 ≤ wd x ∧ wd x < 4294967296 := by have := x.toNat_lt; unfold wd; omega
theorem w_xor (x y : UInt32) : bits .xor .u32 (wd x) (wd y) = wd (x ^^^ y) := by
  show IntKind.u32.wrap ((BitVec.ofInt 32 (wd x) ^^^ BitVec.ofInt 32 (wd y)).toNat : Int) = _
  rw [bits32 x, bits32 y, wr32 _ (Int.natCast_nonneg _) (by have := (x.toBitVec ^^^ y.toBitVec).isLt; omega)]
  rfl
theorem w_and (x y : UInt32) : bits .and .u32 (wd x) (wd y) = wd (x &&& y) := by
  show IntKind.u32.wrap ((BitVec.ofInt 32 (wd x) &&& BitVec.ofInt 32 (wd y)).toNat : Int) = _
  rw [bits32 x, bits32 y, wr32 _ (Int.natCast_nonneg _) (by have := (x.toBitVec &&& y.toBitVec).isLt; omega)]
  rfl
theorem w_or (x y : UInt32) : bits .or .u32 (wd x) (wd y) = wd (x ||| y) := by
  show IntKind.u32.wrap ((BitVec.ofInt 32 (wd x) ||| BitVec.ofInt 32 (wd y)).toNat : Int) = _
  rw [bits32 x, bits32 y, wr32 _ (Int.natCast_nonneg _) (by have := (x.toBitVec ||| y.toBitVec).isLt; omega)]
  rfl
theorem not_nat (x : UInt32) : (~~~x).toNat = 4294967295 - x.toNat := by
  show (~~~x.toBitVec).toNat = _
  rw [BitVec.toNat_not]; rfl
theorem w_not (x : UInt32) : IntKind.u32.wrap ((4294967295 : Int) - wd x) = wd (~~~x) := by
  have h := x.toNat_lt
  unfold wd
  rw [w32, not_nat]; omega
theorem w_shr (x : UInt32) (n : Nat) (hn : n < 32) : (wd x / ((2 ^ n : Nat) : Int)) = wd (x >>> UInt32.ofNat n) := by
  unfold wd
  rw [UInt32.toNat_shiftRight, Nat.shiftRight_eq_div_pow]
  rw [show (UInt32.ofNat n).toNat % 32 = n by rw [UInt32.toNat_ofNat']; omega]
  exact (Int.natCast_ediv _ _).symm
theorem w_shl (x : UInt32) (n : Nat) (hn : n < 32) : IntKind.u32.wrap (wd x * ((2 ^ n : Nat) : Int)) = wd (x <<< UInt32.ofNat n) := by
  unfold wd
  rw [UInt32.toNat_shiftLeft, Nat.shiftLeft_eq, w32]
  rw [show (UInt32.ofNat n).toNat % 32 = n by rw [UInt32.toNat_ofNat']; omega]
  rw [← Int.natCast_mul]
  exact (Int.natCast_emod _ _).symm
theorem w_wrap (x : UInt32) : IntKind.u32.wrap (wd x) = wd x := by have := w_lt x; rw [w32]; omega
theorem w_shl8 (x : UInt32) : IntKind.u32.wrap (wd x * (256 : Int)) = wd (x <<< 8) := w_shl x 8 (by decide)
theorem w_shl16 (x : UInt32) : IntKind.u32.wrap (wd x * (65536 : Int)) = wd (x <<< 16) := w_shl x 16 (by decide)
theorem w_shl24 (x : UInt32) : IntKind.u32.wrap (wd x * (16777216 : Int)) = wd (x <<< 24) := w_shl x 24 (by decide)
theorem w_shr3 (x : UInt32) : wd x / (8 : Int) = wd (x >>> 3) := w_shr x 3 (by decide)
theorem w_shr10 (x : UInt32) : wd x / (1024 : Int) = wd (x >>> 10) := w_shr x 10 (by decide)
namespace Sp
abbrev Kid := Bs × Bs
abbrev Node := List Ver × List Kid
def le (a b : Bs) : Bool := Op.bytesLess a b || a == b
def kgo : Option Bs → List Kid → Int
  | _, [] => 0
  | p, k :: r => if name k.1 = false then 1 else if p.any (le k.1) = true then 8 else kgo (some k.1) r
def kcheck (l : List Kid) : Int := if 128 < l.length then 2 else kgo none l
def ncheck (n : Node) : Int := if leaf n.1 ≠ 0 then leaf n.1 else kcheck n.2
def pv (l : List Kid) (k : Nat) : Option Bs := if k = 0 then none else (l[k - 1]?).map (·.1)
theorem kgo_step (l : List Kid) (k : Nat) (h : k < l.length) : kgo (pv l k) (l.drop k) = if name l[k].1 = false then 1 else if (pv l k).any (le l[k].1) = true then 8 else kgo (pv l (k + 1)) (l.drop (k + 1)) := by
  have e : pv l (k + 1) = some l[k].1 := by simp [pv, h]
  rw [List.drop_eq_getElem_cons h, kgo, e]
def wkid (k : Kid) (x : W) : W := wdigest k.2 (wtext k.1 x)
def wkids (l : List Kid) (x : W) : W := l.foldl (fun x k => wkid k x) x
def wnode (n : Node) : W := wkids n.2 (wnum n.2.length (wleaf n.1 ([], 0)))
def nbytes (n : Node) : W := if ncheck n ≠ 0 then ([], ncheck n) else wdone (wnode n)
def nsum (n : Node) : Bs := if (nbytes n).2 ≠ 0 then List.replicate 32 0 else sha (nbytes n).1
theorem nsum_len (n : Node) : (nsum n).length = 32 := by
  unfold nsum; split
  · simp
  · exact sha_len _
theorem wkids_snoc (l : List Kid) (k : Kid) (x : W) : wkids (l ++ [k]) x = wkid k (wkids l x) := by simp [wkids]
theorem wkid_len (k : Kid) (x : W) : (wkid k x).1.length ≤ x.1.length + k.1.length + k.2.length + 20 := by
  have h1 := wput_len true k.2 (wtext k.1 x)
  have h2 := wtext_len k.1 x
  unfold wkid wdigest
  omega
theorem wkids_len (m n : Nat) : ∀ (l : List Kid) (x : W), (∀ k ∈ l, k.1.length ≤ m ∧ k.2.length ≤ n) → (wkids l x).1.length ≤ x.1.length + l.length * (m + n + 20)
  | [], x, _ => by simp [wkids]
  | k :: r, x, h => by
    have h1 := wkids_len m n r (wkid k x) (fun j hj => h j (List.mem_cons_of_mem _ hj))
    have h2 := wkid_len k x
    have h3 := h k (List.mem_cons_self ..)
    rw [show wkids (k :: r) x = wkids r (wkid k x) from rfl, List.length_cons, Nat.succ_mul]
    omega
theorem wput_stop (b : Bool) (s : Bs) (x : W) (h : x.2 ≠ 0) : wput b s x = x := if_pos h
theorem wvers_stop : ∀ (l : List Ver) (x : W), x.2 ≠ 0 → wvers l x = x
  | [], _, _ => rfl
  | v :: r, x, h => by
    have hd : ∀ (d : List Dot), wdots d x = x := by
      intro d; induction d with
      | nil => rfl
      | cons a t ih => show wdots t (wdot a x) = x; unfold wdot wnum; rw [wput_stop _ _ _ h, wput_stop _ _ _ h, ih]
    have hw : wvec v.past x = x := by
      unfold wvec wnum
      split
      · exact if_neg h
      · rw [wput_stop _ _ _ h, hd]
    have hv : wver v x = x := by
      unfold wver wtext wflag wdot wnum
      rw [wput_stop _ _ _ h, wput_stop _ _ _ h, hw, wput_stop _ _ _ h, wput_stop _ _ _ h]
    show wvers r (wver v x) = x
    rw [hv, wvers_stop r x h]
theorem wleaf_stop (l : List Ver) (x : W) (h : x.2 ≠ 0) : wleaf l x = x := by
  unfold wleaf
  split
  · exact if_neg h
  · unfold wnum; rw [wput_stop _ _ _ h, wvers_stop l x h]
theorem wkids_stop : ∀ (l : List Kid) (x : W), x.2 ≠ 0 → wkids l x = x
  | [], _, _ => rfl
  | k :: r, x, h => by
    show wkids r (wkid k x) = x
    unfold wkid wdigest wtext
    rw [wput_stop _ _ _ h, wput_stop _ _ _ h, wkids_stop r x h]
def rnode (n : Node) : W := wkids n.2 (wnum n.2.length (wleaf n.1 (wfail (ncheck n) ([], 0))))
theorem rnode_ok (n : Node) : wdone (rnode n) = nbytes n := by
  unfold rnode nbytes
  by_cases h : ncheck n = 0
  · rw [if_neg (by simpa using h), h]; rfl
  · have e : wfail (ncheck n) ([], 0) = ([], ncheck n) := rfl
    rw [if_pos h, e, wleaf_stop _ _ h]
    unfold wnum
    rw [wput_stop _ _ _ h, wkids_stop _ _ h]
    exact if_neg h
theorem wput_some (b : Bool) (s : Bs) (x : W) (h : x.2 = 0 → x.1 ≠ []) : (wput b s x).2 = 0 → (wput b s x).1 ≠ [] := by
  unfold wput
  split
  · rename_i h2; intro h3; exact absurd h3 h2
  · rename_i h2
    have := h (by simpa using h2)
    split
    · intro _; simp [this]
    · intro h3; cases h3
theorem wkids_some : ∀ (l : List Kid) (x : W), (x.2 = 0 → x.1 ≠ []) → (wkids l x).2 = 0 → (wkids l x).1 ≠ []
  | [], _, h => h
  | k :: r, x, h => wkids_some r (wkid k x) (wput_some _ _ _ (wput_some _ _ _ h))
theorem wnum_some (n : Int) (x : W) : (wnum n x).2 = 0 → (wnum n x).1 ≠ [] := by
  unfold wnum wput
  split
  · rename_i h2; intro h3; exact absurd h3 h2
  · split
    · rename_i hd
      have h5 := put_ne.2 (of_decide_eq_true hd)
      intro _; simp [h5]
    · intro h3; cases h3
theorem wnode_some (n : Node) : (wnode n).2 = 0 → (wnode n).1 ≠ [] := wkids_some _ _ (wnum_some _ _)
theorem ncheck_ok {n : Node} (h : ncheck n = 0) : leaf n.1 = 0 ∧ n.2.length ≤ 128 ∧ kgo none n.2 = 0 := by
  unfold ncheck at h
  split at h
  · rename_i h2; exact absurd h h2
  · rename_i h2
    unfold kcheck at h
    split at h
    · cases h
    · exact ⟨by simpa using h2, by omega, h⟩
end Sp
def kidL (k : Sp.Kid) : List Value := .string (strOf k.1) :: k.2.map byteV
def kidsC : List Sp.Kid → List Value
  | [] => []
  | k :: r => kidL k ++ kidsC r
def KidsOk (l : List Sp.Kid) : Prop := ∀ k ∈ l, k.2.length = 32 ∧ k.1.length ≤ 1000000
theorem kidL_len (k : Sp.Kid) (h : k.2.length = 32) : (kidL k).length = 33 := by simp [kidL, h]
theorem kidsC_len : ∀ (l : List Sp.Kid), KidsOk l → (kidsC l).length = l.length * 33
  | [], _ => rfl
  | k :: r, h => by
    rw [kidsC, List.length_append, kidL_len k (h k (List.mem_cons_self ..)).1, kidsC_len r (fun j hj => h j (List.mem_cons_of_mem _ hj)), List.length_cons]; omega
theorem kidsC_append (l m : List Sp.Kid) : kidsC (l ++ m) = kidsC l ++ kidsC m := by
  induction l with
  | nil => rfl
  | cons k r ih => rw [List.cons_append, kidsC, ih, kidsC, List.append_assoc]
theorem kidsC_get (l : List Sp.Kid) (k : Nat) (hk : k < l.length) (h : KidsOk l) (j : Nat) (v : Value) (hv : (kidL l[k])[j]? = some v) : (kidsC l)[k * 33 + j]? = some v := by
  have e : l = l.take k ++ l[k] :: l.drop (k + 1) := by rw [← List.drop_eq_getElem_cons hk, List.take_append_drop]
  have ht : (kidsC (l.take k)).length = k * 33 := by
    rw [kidsC_len _ (fun x hx => h x (List.mem_of_mem_take hx)), List.length_take, Nat.min_eq_left (Nat.le_of_lt hk)]
  have hj : j < (kidL l[k]).length := by
    rcases Nat.lt_or_ge j (kidL l[k]).length with h | h
    · exact h
    · rw [List.getElem?_eq_none h] at hv; cases hv
  have e2 : kidsC l = kidsC (l.take k) ++ (kidL l[k] ++ kidsC (l.drop (k + 1))) := by
    rw [← kidsC, ← kidsC_append, ← e]
  rw [e2, List.getElem?_append_right (by omega), ht, show k * 33 + j - k * 33 = j by omega, List.getElem?_append_left hj]
  exact hv
def Kids (w : World) (A : Option Addr) (l : List Sp.Kid) : Prop := Cells w A (kidsC l) ∧ KidsOk l
theorem Kids.ext {w w' : World} {A : Option Addr} {l : List Sp.Kid} (h : Kids w A l) (e : Ext w w') : Kids w' A l := ⟨h.1.ext e, h.2⟩
theorem Kids.nil (w : World) (A : Option Addr) : Kids w A [] := ⟨Cells.nil _ _, fun _ h => by cases h⟩
theorem Kids.at {w : World} {A : Option Addr} {l : List Sp.Kid} (h : Kids w A l) (hn : 0 < l.length) : ∃ g o, A = some ⟨g, o, none⟩ ∧ ∀ k (h : k < l.length), w.rangeAt g (o + k * 33) (kidL l[k]) := by
  obtain ⟨g, o, hA, hc⟩ := h.1 (by
    intro e
    have := kidsC_len l h.2
    rw [e] at this
    simp at this
    omega)
  refine ⟨g, o, hA, fun k hk j v hv => ?_⟩
  rw [Nat.add_assoc]
  exact hc _ _ (kidsC_get l k hk h.2 j v hv)
theorem kid_name {w : World} {g o : Nat} {k : Sp.Kid} (h : w.rangeAt g o (kidL k)) : w.cell? ⟨g, o, none⟩ = some (.string (strOf k.1)) := h 0 _ rfl
end Go.Proofs.YtmlfnidckfeebaaGreatDoor
namespace Go.Proofs.YtmlfnidckfeebaaGreatDoor
open Go.RowKit Go.Shelf
attribute [local go_sem] yUpon
set_option maxRecDepth 100000 in
set_option maxHeartbeats 2000000 in
theorem rvercheck_calls (v : Sp.Ver) (A : Option Addr) (cap : Nat) (w : World) (h : Past w A v) :
    Calls Tryz.prog 166 #[verV A cap v] w fun e w' => e = .returned (.int .i64 (Sp.vercheck v)) ∧ Ext w w' := by
  obtain ⟨W0, hW0⟩ : ∃ W0, W0 = w.alloc (.cells (verC A cap v) 71) := ⟨_, rfl⟩
  have HB := Lib.hid (show isBlk W0 w.heap.size 71 (verC A cap v) by rw [hW0]; exact box_at _ _ _)
  have E0 := Lib.hid (show Ext w W0 by rw [hW0]; exact Ext.alloc _ _)
  have HW := Lib.hid hW0.symm
  have CP := Lib.hid fun W (e : Ext w W) => rvcheck_calls v.past A cap W (h.1.ext e) h.2
  have CH := Lib.hid fun W (e : Ext w W) => rvhas_calls v.past A cap v.dot W (h.1.ext e) h.2
  have sz : (strOf v.data).size = v.data.length := strOf_size _
  clear h hW0
  go_enter Tryz.func166, Tryz.ntmps166
  go_wp2_with fail
  rw [HW.out]
  refine (rdot_calls v.dot W0).mono ?_
  rintro e w1 ⟨rfl, hb1⟩
  have B1 := Lib.hid hb1
  have z1 := HB.out.below hb1
  have c0 := (z1.cell 0).trans rfl
  have c1 := (z1.cell 1).trans rfl
  have c2 := (z1.cell 2).trans rfl
  have Z1 := Lib.hid z1
  clear z1 hb1
  by_cases hd : Sp.dot v.dot = 0
  · have F := Lib.hid (show Sp.vercheck v = if Sp.vcheck v.past ≠ 0 then Sp.vcheck v.past else if Sp.vhas v.past v.dot = true then 8 else if 48 < v.data.length then 2 else if v.dead = true ∧ v.data ≠ [] then 7 else 0 from if_neg (by simpa using hd))
    rw [hd]
    clear hd
    go_wp2_with (first
      | (go_at_call 139; refine (CP.out _ (E0.out.trans B1.out)).mono ?_; rintro e w2 ⟨rfl, hb2⟩; have z2 := Z1.out.below hb2; have d0 := (z2.cell 0).trans rfl; have d1 := (z2.cell 1).trans rfl; have d2 := (z2.cell 2).trans rfl; have B2 := Lib.hid (B1.out.trans hb2); have Z2 := Lib.hid z2; clear c0 c1 c2 z2 hb2)
      | (go_at_call 232; refine (CH.out _ (E0.out.trans B2.out)).mono ?_; rintro e w3 ⟨rfl, hb3⟩; have z3 := Z2.out.below hb3; have e3 := (z3.cell 2).trans rfl; have e4 := (z3.cell 3).trans rfl; have e5 := (z3.cell 4).trans rfl; have B3 := Lib.hid (B2.out.trans hb3); clear d0 d1 d2 z3 hb3))
    all_goals
      go_ret
      refine ⟨ret_int ?_, ?_⟩
      · have ll := @List.length_pos_iff _ v.data
        rw [F.out]
        clear F HB E0 HW CP CH B1 Z1
        simp_all
        try omega
      · first
          | exact E0.out.trans B3.out
          | exact E0.out.trans B2.out
          | exact E0.out.trans B1.out
  · have F := Lib.hid (show Sp.vercheck v = Sp.dot v.dot from if_pos hd)
    have b1 : (Sp.dot v.dot == 0) = false := by simpa using hd
    have b2 : (Sp.dot v.dot != 0) = true := by simpa using hd
    clear hd
    go_wp2
    go_ret
    exact ⟨ret_int F.out.symm, E0.out.trans B1.out⟩
set_option maxRecDepth 100000 in
set_option maxHeartbeats 2000000 in
theorem rcovers_calls (a b : Sp.Ver) (A B : Option Addr) (cap cap' : Nat) (w : World) (h : Past w A a) :
    Calls Tryz.prog 167 #[verV A cap a, verV B cap' b] w fun e w' => e = .returned (.bool (Sp.covers a b)) ∧ Ext w w' := by
  have CH := Lib.hid fun W (e : Ext w W) => rvhas_calls a.past A cap b.dot W (h.1.ext e) h.2
  clear h
  go_enter Tryz.func167, Tryz.ntmps167
  go_wp2_with (go_at_call 232; refine (CH.out _ ((Ext.alloc _ _).trans (Ext.alloc _ _))).mono ?_; rintro e w1 ⟨rfl, hb1⟩)
  go_ret
  exact ⟨rfl, ((Ext.alloc _ _).trans (Ext.alloc _ _)).trans hb1⟩
set_option maxRecDepth 100000 in
set_option maxHeartbeats 4000000 in
theorem rcovered_calls (l : List Sp.Ver) (v : Sp.Ver) (A B : Option Addr) (cap cap' : Nat) (w : World) (h : Vers w A l) (hl : l.length ≤ 1000000) :
    Calls Tryz.prog 101 #[.slice A l.length cap, verV B cap' v] w fun e w' => e = .returned (.bool (Sp.covered l v)) ∧ Ext w w' := by
  obtain ⟨W0, hW0⟩ : ∃ W0, W0 = w.alloc (.cells (verC B cap' v) 71) := ⟨_, rfl⟩
  have HB := Lib.hid (show isBlk W0 w.heap.size 71 (verC B cap' v) by rw [hW0]; exact box_at _ _ _)
  have E0 := Lib.hid (show Ext w W0 by rw [hW0]; exact Ext.alloc _ _)
  have HH := Lib.hid (h.ext E0.out)
  have HW := Lib.hid hW0.symm
  clear hW0 h
  go_enter Tryz.func101, Tryz.ntmps101
  go_wp2_with fail
  rw [HW.out]
  go_loopw [5] (fun v5 wr => ∃ k : Nat, k ≤ l.length ∧ v5 = .int .i64 k ∧ Sp.covered l v = (l.drop k).any (fun x => Sp.covers x v) ∧ Ext W0 wr) (fun v5 _ => l.length - (intOf v5).toNat)
  case atStart => exact ⟨0, Nat.zero_le _, rfl, rfl, Ext.refl _⟩
  case round =>
    obtain ⟨k, hk, rfl, hv, hb⟩ := hrel
    by_cases hlt : k < l.length
    · obtain ⟨g, o, rfl, hc⟩ := (HH.out.ext hb).at (by omega)
      obtain ⟨A', c', ⟨c0, c1, c2, c3, c4⟩, hp⟩ := hc k hlt
      rw [List.drop_eq_getElem_cons hlt, List.any_cons] at hv
      have HV := Lib.hid hv
      have C := Lib.hid fun W (e : Ext wr W) => rcovers_calls l[k] v A' B c' cap' W (hp.ext e)
      clear hv hc hp
      go_wp2_with fail
      refine wp_region_det (fun W => Ext wr W) (by kernel_rfl) (by kernel_rfl) (Below.refl _ _).drew ?_
      repeat (first
        | (refine det_step (fun K hK => ?_)
           apply Exists.intro
           refine ⟨Or.inl ⟨rfl, fun W hS => ?_⟩, ?_⟩
           · replace hS : Ext wr W := hS
             have f0 := hS.cell c0; have f1 := hS.cell c1; have f2 := hS.cell c2; have f3 := hS.cell c3; have f4 := hS.cell c4; have z := (HB.out.below hb).below hS; have z0 := (z.cell 0).trans rfl; have z1 := (z.cell 1).trans rfl; have z2 := (z.cell 2).trans rfl; have z3 := (z.cell 3).trans rfl; have z4 := (z.cell 4).trans rfl
             go_simp
             first
             | exact rfl
             | exact ⟨rfl, hS⟩
             | (refine (C.out W hS).mono ?_; rintro e w1 ⟨rfl, hb1⟩; exact ⟨rfl, hS.trans hb1⟩)
           go_simp
           refine hK _ ?_
           clear hK K)
        | (refine det_step (fun K hK => ?_); refine det_no' rfl ?_; go_simp; refine hK _ ?_; clear hK K))
      refine det_nil ?_
      intro W9 hS
      replace hS : Ext _ W9 := hS
      go_wp2
      · go_ret
        exact ⟨by rw [HV.out]; simp_all, E0.out.trans (hb.trans hS)⟩
      · go_roundw
        case rel => exact ⟨k + 1, by omega, by go_num, by rw [HV.out]; simp_all, hb.trans hS⟩
        case measure => simp [intOf]; omega
    · obtain rfl : k = l.length := by omega
      have HV := Lib.hid hv
      clear hv
      go_wp2
      go_ret
      exact ⟨by rw [HV.out]; simp, E0.out.trans hb⟩
set_option maxRecDepth 100000 in
set_option maxHeartbeats 4000000 in
theorem rleaf_calls (l : List Sp.Ver) (A : Option Addr) (cap : Nat) (w : World) (h : Vers w A l) :
    Calls Tryz.prog 100 #[.slice A l.length cap] w fun e w' => e = .returned (.int .i64 (Sp.leaf l)) ∧ Ext w w' := by
  by_cases h64 : 64 < l.length
  · have F := Lib.hid (show Sp.leaf l = 2 from if_pos h64)
    have b1 : decide ((64 : Int) < (l.length : Int)) = true := by rw [decide_eq_true_iff]; omega
    clear h64
    go_enter Tryz.func100, Tryz.ntmps100
    go_wp2
    go_ret
    exact ⟨ret_int F.out.symm, Ext.refl _⟩
  · have F := Lib.hid (show Sp.leaf l = if Sp.lgo none l ≠ 0 then Sp.lgo none l else if (l.any fun v => Sp.covered l v) = true then 7 else 0 from if_neg h64)
    have b1 : decide ((64 : Int) < (l.length : Int)) = false := by rw [decide_eq_false_iff_not]; omega
    have hl : l.length ≤ 64 := by omega
    clear h64
    go_enter Tryz.func100, Tryz.ntmps100
    go_wp2
    go_loopw [3] (fun v3 wr => ∃ k : Nat, k ≤ l.length ∧ v3 = .int .i64 k ∧ Sp.lgo none l = Sp.lgo (Sp.lastP l k) (l.drop k) ∧ Ext w wr) (fun v3 _ => l.length - (intOf v3).toNat)
    case atStart => exact ⟨0, Nat.zero_le _, rfl, rfl, Ext.refl _⟩
    case round =>
      obtain ⟨k, hk, rfl, hv, hb⟩ := hrel
      by_cases hlt : k < l.length
      · obtain ⟨g, o, rfl, hc⟩ := (h.ext hb).at (by omega)
        obtain ⟨A', c', ⟨c0, c1, c2, c3, c4⟩, hp⟩ := hc k hlt
        have HC := Lib.hid hc
        rw [Sp.lgo_step l k hlt] at hv
        have HV := Lib.hid hv
        have VC := Lib.hid (rvercheck_calls l[k] A' c' _ hp)
        clear hv hc hp
        go_wp2_with fail
        refine VC.out.mono ?_
        rintro e w1 ⟨rfl, hb1⟩
        have B1 := Lib.hid hb1
        have g0 := hb1.cell c0
        clear hb1 c0 c1 c2 c3 c4
        by_cases hz : Sp.vercheck l[k] = 0
        · have b2 : (Sp.vercheck l[k] != 0) = false := by simpa using hz
          by_cases h0 : k = 0
          · subst h0
            have b3 : decide ((0 : Int) < 0) = false := by decide
            go_wp2_with fail
            refine wp_region_det (fun W => Ext w1 W) (by kernel_rfl) (by kernel_rfl) (Below.refl _ _).drew ?_
            repeat (first
              | (refine det_step (fun K hK => ?_)
                 apply Exists.intro
                 refine ⟨Or.inl ⟨rfl, fun W hS => ?_⟩, ?_⟩
                 · replace hS : Ext w1 W := hS
                   skip
                   go_simp
                   first
                   | exact rfl
                   | exact ⟨rfl, hS⟩
                   | (fail)
                 go_simp
                 refine hK _ ?_
                 clear hK K)
              | (refine det_step (fun K hK => ?_); refine det_no' rfl ?_; go_simp; refine hK _ ?_; clear hK K))
            refine det_nil ?_
            intro W9 hS
            replace hS : Ext _ W9 := hS
            go_wp2_with fail
            go_roundw
            case rel => exact ⟨1, by omega, rfl, by rw [HV.out, if_neg (by simpa using hz), if_neg (Sp.lastP_zero _ _)], hb.trans (B1.out.trans hS)⟩
            case measure => simp [intOf]; omega
          · have b3 : decide (0 < k) = true := by rw [decide_eq_true_iff]; omega
            have h0' : 0 < k := by omega
            obtain ⟨A2, c2', ⟨d0, d1, d2, d3, d4⟩, hp2⟩ := HC.out (k - 1) (by omega)
            have w1' : IntKind.i64.wrap ((k : Int) - 1) = (k : Int) - 1 := IntWalk.i64_in _ (by omega)
            have i1 : (0 : Int) ≤ (k : Int) - 1 := by omega
            have i2 : (k : Int) - 1 < l.length := by omega
            have i4 : (1 : Int) ≤ k := by omega
            have i5 : 1 ≤ k := by omega
            have i3 : ((k : Int) - 1).toNat = k - 1 := by omega
            have e0 := B1.out.cell d0
            clear d0 d1 d2 d3 d4 hp2
            go_wp2_with fail
            refine wp_region_det (fun W => Ext w1 W) (by kernel_rfl) (by kernel_rfl) (Below.refl _ _).drew ?_
            repeat (first
              | (refine det_step (fun K hK => ?_)
                 apply Exists.intro
                 refine ⟨Or.inl ⟨rfl, fun W hS => ?_⟩, ?_⟩
                 · replace hS : Ext w1 W := hS
                   have f1 := hS.cell e0; have f2 := hS.cell g0
                   go_simp
                   first
                   | exact rfl
                   | exact ⟨rfl, hS⟩
                   | (fail)
                 go_simp
                 refine hK _ ?_
                 clear hK K)
              | (refine det_step (fun K hK => ?_); refine det_no' rfl ?_; go_simp; refine hK _ ?_; clear hK K))
            refine det_nil ?_
            intro W9 hS
            replace hS : Ext _ W9 := hS
            go_wp2_with fail
            · go_ret
              have hle : l[k].dot.1 ≤ l[k - 1].dot.1 := by assumption
              have e8 : Sp.lgo none l = 8 := by rw [HV.out, if_neg (by simpa using hz), if_pos ((Sp.lastP_pos l k _ h0' (by omega)).2 hle)]
              exact ⟨ret_int (by rw [F.out, e8]; rfl), hb.trans (B1.out.trans hS)⟩
            · have hgt : ¬ l[k].dot.1 ≤ l[k - 1].dot.1 := by omega
              go_roundw
              case rel => exact ⟨k + 1, by omega, by go_num, by rw [HV.out, if_neg (by simpa using hz), if_neg (fun e => hgt ((Sp.lastP_pos l k _ h0' (by omega)).1 e))], hb.trans (B1.out.trans hS)⟩
              case measure => simp [intOf]; omega
        · have b2 : (Sp.vercheck l[k] != 0) = true := by simpa using hz
          go_wp2_with fail
          go_ret
          have e8 : Sp.lgo none l = Sp.vercheck l[k] := by rw [HV.out, if_pos hz]
          exact ⟨ret_int (by rw [F.out, e8, if_pos hz]), hb.trans B1.out⟩
      · obtain rfl : k = l.length := by omega
        rw [List.drop_length, Sp.lgo] at hv
        have HV := Lib.hid hv
        have FF := Lib.hid (show Sp.leaf l = if (l.any fun v => Sp.covered l v) = true then 7 else 0 by rw [F.out, HV.out]; rfl)
        have HB := Lib.hid hb
        clear hv
        go_wp2_with fail
        go_loopw [5] (fun v5 wr => ∃ k : Nat, k ≤ l.length ∧ v5 = .int .i64 k ∧ (l.any fun v => Sp.covered l v) = ((l.drop k).any fun v => Sp.covered l v) ∧ Ext w wr) (fun v5 _ => l.length - (intOf v5).toNat)
        case atStart => exact ⟨0, Nat.zero_le _, rfl, rfl, HB.out⟩
        case round =>
          obtain ⟨k, hk, rfl, hv, hb⟩ := hrel
          by_cases hlt : k < l.length
          · have CC := Lib.hid fun B cap' => rcovered_calls l l[k] A B cap cap' _ (h.ext hb) (by omega)
            obtain ⟨g, o, rfl, hc⟩ := (h.ext hb).at (by omega)
            obtain ⟨A', c', ⟨c0, c1, c2, c3, c4⟩, hp⟩ := hc k hlt
            rw [List.drop_eq_getElem_cons hlt, List.any_cons] at hv
            have HV := Lib.hid hv
            clear hv hc hp
            go_wp2_with fail
            refine (CC.out A' c').mono ?_
            rintro e w1 ⟨rfl, hb1⟩
            have B1 := Lib.hid hb1
            clear hb1 c0 c1 c2 c3 c4
            go_wp2
            · go_ret
              exact ⟨ret_int (by rw [FF.out, HV.out]; simp_all), hb.trans B1.out⟩
            · go_roundw
              case rel => exact ⟨k + 1, by omega, by go_num, by rw [HV.out]; simp_all, hb.trans B1.out⟩
              case measure => simp [intOf]; omega
          · obtain rfl : k = l.length := by omega
            rw [List.drop_length] at hv
            have HV := Lib.hid hv
            clear hv
            go_wp2
            go_ret
            exact ⟨ret_int (by rw [FF.out, HV.out]; rfl), hb⟩
end Go.Proofs.YtmlfnidckfeebaaGreatDoor
