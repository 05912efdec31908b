/- Bytes in a block, turned into a text. Walks: a number that is written, the reference's. Walks: the reference's writer, and its reader. Digests: plain. Nodes: plain. Walks: the reference's vectors. Walks: versions that are the same; those that live. Walks: the reference's leaves; leaves that are the same. Walks: the reference's vectors and leaves as bytes. -/
import Derived.Test.YtmlfnidckfeebaaGreatDoorP006
namespace Go.Proofs.YtmlfnidckfeebaaGreatDoor

theorem strOf_append (s : ByteArray) (l : List UInt8) : s ++ strOf l = strOf (s.data.toList ++ l) := by
  apply ByteArray.ext
  simp [strOf, ByteArray.data_append]
end Go.Proofs.YtmlfnidckfeebaaGreatDoor
namespace Go.Proofs.YtmlfnidckfeebaaGreatDoor
open Go.RowKit
/-- A byte in a new block, turned into a text, at once .. -/
theorem conv_one (c : UInt8) (W : World) : (convert 172 9 (.slice (some ⟨W.heap.size, 0, none⟩) 1 1)).run Tryz.prog (W.alloc (.cells #[.int .u8 c.toNat] 5 (0, 0))) = .ok (.string (strOf [c])) (W.alloc (.cells #[.int .u8 c.toNat] 5 (0, 0))) :=
  conv_cells Tryz.underlying172 Tryz.underlying5 Tryz.underlying9 W.heap.size 0 1 [c] (fun i hi => by
    obtain rfl : i = 0 := by simpa using hi
    rw [cell_of_row _ W.heap.size 0 _ _ (0, 0) (heap_alloc_new W _)]; rfl)
theorem conv_one' (c : UInt8) (W : World) : (convert 172 9 (.slice (some ⟨W.heap.size, 0, none⟩) 1 1)).run Tryz.prog (W.alloc (.cells #[.int .u8 c.toNat] 5 (0, 0))).drew = .ok (.string (strOf [c])) (W.alloc (.cells #[.int .u8 c.toNat] 5 (0, 0))).drew :=
  conv_cells Tryz.underlying172 Tryz.underlying5 Tryz.underlying9 W.heap.size 0 1 [c] (fun i hi => by
    obtain rfl : i = 0 := by simpa using hi
    exact (cell_of_row (W.alloc _) W.heap.size 0 _ _ (0, 0) (heap_alloc_new W _)).trans rfl)
/-- .. and behind a call. -/
theorem conv_later (c : UInt8) (W W1 : World) (hb : Below (W.alloc (.cells #[.int .u8 c.toNat] 5 (0, 0))).drew.heap.size (W.alloc (.cells #[.int .u8 c.toNat] 5 (0, 0))).drew W1) :
    (convert 172 9 (.slice (some ⟨W.heap.size, 0, none⟩) 1 1)).run Tryz.prog W1 = .ok (.string (strOf [c])) W1 :=
  conv_cells Tryz.underlying172 Tryz.underlying5 Tryz.underlying9 W.heap.size 0 1 [c] (fun i hi => by
    obtain rfl : i = 0 := by simpa using hi
    exact cellKept (W := (W.alloc (.cells #[.int .u8 c.toNat] 5 (0, 0))).drew) ((cell_of_row (W.alloc (.cells #[.int .u8 c.toNat] 5 (0, 0))) W.heap.size 0 _ _ (0, 0) (heap_alloc_new W _)).trans (by simp [byteV])) hb)
set_option maxRecDepth 100000 in
set_option maxHeartbeats 2000000 in
theorem rput_small (n : Nat) (w : World) (h : n < 128) : Calls Tryz.prog 196 #[.int .i64 n] w fun e w' => e = .returned (.string (strOf (Sp.cput n))) ∧ Below w.heap.size w w' := by
  obtain ⟨c, hc⟩ : ∃ c : UInt8, c = UInt8.ofNat n := ⟨_, rfl⟩
  have F := Lib.hid (show strOf [c] = strOf (Sp.cput n) by rw [Sp.cput.eq_def n, if_pos h, hc])
  have t3 : IntKind.u8.wrap (n : Int) = (c.toNat : Int) := by rw [IntKind.wrap_u8, hc]; simp
  have e1 : decide ((n : Int) < 128) = true := by rw [decide_eq_true_iff]; omega
  have e2 : decide ((n : Int) < 0) = false := by simp
  have e3 : decide ((1073741824 : Int) < (n : Int)) = false := by rw [decide_eq_false_iff_not]; omega
  have cv0 := conv_one c
  clear hc h
  go_enter Tryz.func196, Tryz.ntmps196
  go_wp2_with fail
  go_ret
  exact ⟨by rw [← F.out]; rfl, (Below.refl _ _).alloc (Nat.le_refl _) _⟩
set_option maxRecDepth 100000 in
set_option maxHeartbeats 2000000 in
theorem rput_nat : ∀ (m n : Nat) (w : World), n ≤ m → n ≤ 1073741824 →
    Calls Tryz.prog 196 #[.int .i64 n] w fun e w' => e = .returned (.string (strOf (Sp.cput n))) ∧ Below w.heap.size w w' := by
  intro m
  induction m with
  | zero =>
    intro n w hn hb
    exact rput_small n w (by omega)
  | succ m ih =>
    intro n w hn hb
    by_cases h : n < 128
    · exact rput_small n w h
    · have e1 : decide ((n : Int) < 128) = false := by rw [decide_eq_false_iff_not]; omega
      obtain ⟨c, hc⟩ : ∃ c : UInt8, c = UInt8.ofNat (n % 128 + 128) := ⟨_, rfl⟩
      have F := Lib.hid (show strOf [c] ++ strOf (Sp.cput (n / 128)) = strOf (Sp.cput n) by rw [strOf_append, strOf_data, Sp.cput.eq_def n, if_neg h, hc]; rfl)
      have IH := Lib.hid (show ∀ W : World, Calls Tryz.prog 196 #[.int .i64 ((n : Int) / 128)] W fun e w' => e = .returned (.string (strOf (Sp.cput (n / 128)))) ∧ Below W.heap.size W w' by
        intro W; rw [show (n : Int) / 128 = ((n / 128 : Nat) : Int) by omega]; exact ih (n / 128) W (by omega) (by omega))
      have t1 : (n : Int).tmod 128 = (n : Int) % 128 := Int.tmod_eq_emod_of_nonneg (Int.natCast_nonneg _)
      have t2 : IntKind.i64.wrap ((n : Int) % 128 + 128) = (n : Int) % 128 + 128 := IntWalk.i64_in _ (by omega)
      have t3 : IntKind.u8.wrap ((n : Int) % 128 + 128) = (c.toNat : Int) := by rw [IntKind.wrap_u8, hc]; simp
      have t4 : IntKind.i64.wrap ((n : Int) / 128) = (n : Int) / 128 := IntWalk.i64_in _ (by omega)
      have t5 : (strOf [c]).size = 1 := strOf_size _
      have t6 : (strOf (Sp.cput (n / 128))).size ≤ 5 := by rw [strOf_size]; exact Sp.cput_len _ (by omega)
      have e2 : decide ((n : Int) < 0) = false := by simp
      have e3 : decide ((1073741824 : Int) < (n : Int)) = false := by rw [decide_eq_false_iff_not]; omega
      have cv0 := conv_one c
      have cv1 := conv_one' c
      clear hc
      go_enter Tryz.func196, Tryz.ntmps196
      go_wp2_with fail
      go_region_with (first
        | (go_at_call 196; refine (IH.out _).mono ?_; rintro e w1 ⟨rfl, hb1⟩; first | have cv2 := conv_later _ _ _ hb1 | skip))
      all_goals
        go_wp2_with fail
        go_ret
        refine ⟨by rw [← F.out]; rfl, ?_⟩
        first
        | exact hb1.alloc hb1.size _
        | exact (((Below.refl _ w).alloc (Nat.le_refl _) (.cells #[.int .u8 c.toNat] 5 (0, 0))).drew).trans (hb1.mono (by simp))
        | exact ((Below.refl _ w).drew.trans hb1).alloc hb1.size _
/-- A number, whatever it is. -/
theorem rput_calls (n : Int) (w : World) : Calls Tryz.prog 196 #[.int .i64 n] w fun e w' => e = .returned (.string (strOf (Sp.put n))) ∧ Below w.heap.size w w' := by
  by_cases h : 0 ≤ n ∧ n ≤ 1073741824
  · have := rput_nat n.toNat n.toNat w (Nat.le_refl _) (by omega)
    rw [show ((n.toNat : Nat) : Int) = n by omega] at this
    rwa [show Sp.put n = Sp.cput n.toNat by unfold Sp.put; rw [if_pos h]]
  · have F := Lib.hid (show strOf (Sp.put n) = strOf [] by unfold Sp.put; rw [if_neg h])
    by_cases h0 : n < 0
    · have e1 : decide (n < 0) = true := decide_eq_true h0
      clear h h0
      go_enter Tryz.func196, Tryz.ntmps196
      go_wp2_with fail
      go_ret
      exact ⟨by rw [F.out]; rfl, Below.refl _ _⟩
    · have e1 : decide (n < 0) = false := decide_eq_false h0
      have e2 : decide (1073741824 < n) = true := decide_eq_true (by omega)
      clear h h0
      go_enter Tryz.func196, Tryz.ntmps196
      go_wp2_with fail
      go_ret
      exact ⟨by rw [F.out]; rfl, Below.refl _ _⟩
end Go.Proofs.YtmlfnidckfeebaaGreatDoor
namespace Go.Proofs.YtmlfnidckfeebaaGreatDoor
open Go.RowKit
set_option maxRecDepth 100000 in
set_option maxHeartbeats 2000000 in
theorem rwfail_calls (g : Nat) (x : Sp.W) (e : Int) (w : World) (h : isRW w g x) :
    Calls Tryz.prog 136 #[.pointer (some ⟨g, 0, none⟩), .int .i64 e] w fun e' w' => e' = .returned (.tuple #[]) ∧ isRW w' g (Sp.wfail e x) ∧ Only g w w' := by
  have c1 := (h.cell 1).trans rfl
  have f1 := h.frozen 1
  by_cases h0 : x.2 = 0
  · have F := Lib.hid (show Sp.wfail e x = (x.1, e) from if_pos h0)
    have S := Lib.hid (isRW.set x w g h x.1 e).2
    rw [h0] at c1
    clear h h0
    go_enter Tryz.func136, Tryz.ntmps136
    go_wp2_with fail
    go_end0
    exact ⟨rfl, by rw [F.out]; exact S.out, Only.set _ _ _ _⟩
  · have F := Lib.hid (show Sp.wfail e x = x from if_neg h0)
    have e1 : (x.2 == 0) = false := by simpa using h0
    have H := Lib.hid h
    clear h h0
    go_enter Tryz.func136, Tryz.ntmps136
    go_wp2_with fail
    go_end0
    exact ⟨rfl, by rw [F.out]; exact H.out, Only.refl _ _⟩
set_option maxRecDepth 100000 in
set_option maxHeartbeats 2000000 in
theorem rwput_calls (g : Nat) (x : Sp.W) (is : Bool) (l : List UInt8) (w : World) (h : isRW w g x) (hlen : x.1.length + l.length ≤ 140737488355328) :
    Calls Tryz.prog 195 #[.pointer (some ⟨g, 0, none⟩), .bool is, .string (strOf l)] w fun e' w' => e' = .returned (.tuple #[]) ∧ isRW w' g (Sp.wput is l x) ∧ Only g w w' := by
  have c0 := (h.cell 0).trans rfl
  have c1 := (h.cell 1).trans rfl
  have f0 := h.frozen 0
  have f1 := h.frozen 1
  by_cases h0 : x.2 = 0
  · rw [h0] at c1
    cases is with
    | false =>
      have F := Lib.hid (show Sp.wput false l x = (x.1, 2) by unfold Sp.wput; rw [if_neg (by simp [h0])]; rfl)
      have S := Lib.hid (isRW.set x w g h x.1 2).2
      clear h h0
      go_enter Tryz.func195, Tryz.ntmps195
      go_wp2_with fail
      go_end0
      exact ⟨rfl, by rw [F.out]; exact S.out, Only.set _ _ _ _⟩
    | true =>
      have F := Lib.hid (show Sp.wput true l x = (x.1 ++ l, 0) by unfold Sp.wput; rw [if_neg (by simp [h0])]; rfl)
      have S := Lib.hid (isRW.set x w g h (x.1 ++ l) 0).1
      rw [h0] at S
      have a1 : strOf x.1 ++ strOf l = strOf (x.1 ++ l) := by rw [strOf_append, strOf_data]
      have s1 : (strOf x.1).size = x.1.length := strOf_size _
      have s2 : (strOf l).size = l.length := strOf_size _
      clear h h0
      go_enter Tryz.func195, Tryz.ntmps195
      go_wp2_with fail
      go_end0
      exact ⟨rfl, by rw [F.out]; exact S.out, Only.set _ _ _ _⟩
  · have F := Lib.hid (show Sp.wput is l x = x by unfold Sp.wput; rw [if_pos (by simpa using h0)])
    have e1 : (x.2 == 0) = false := by simpa using h0
    have e2 : (x.2 != 0) = true := by simpa using h0
    have H := Lib.hid h
    clear h h0
    go_enter Tryz.func195, Tryz.ntmps195
    go_wp2_with fail
    refine bodyPost_ret (results_none rfl _ _ _) rfl ?_
    exact ⟨rfl, by rw [F.out]; exact H.out, Only.refl _ _⟩
set_option maxRecDepth 100000 in
set_option maxHeartbeats 2000000 in
theorem rwnum_calls (g : Nat) (x : Sp.W) (n : Int) (w : World) (h : isRW w g x) (hlen : x.1.length ≤ 100000000000000) :
    Calls Tryz.prog 127 #[.pointer (some ⟨g, 0, none⟩), .int .i64 n] w fun e' w' => e' = .returned (.tuple #[]) ∧ isRW w' g (Sp.wnum n x) ∧ Only g w w' := by
  have P := Lib.hid (rput_calls n w)
  have PU := Lib.hid fun (W : World) (hb : Below w.heap.size w W) => rwput_calls g x (decide (0 ≤ n ∧ n ≤ 1073741824)) (Sp.put n) W (h.below hb) (by have := Sp.put_len n; omega)
  have F := Lib.hid (show Sp.wnum n x = Sp.wput (decide (0 ≤ n ∧ n ≤ 1073741824)) (Sp.put n) x from rfl)
  by_cases h0 : 0 ≤ n
  · have e0 : decide (0 ≤ n) = true := decide_eq_true h0
    rw [show decide (0 ≤ n ∧ n ≤ 1073741824) = decide (n ≤ 1073741824) by rw [decide_eq_decide]; omega] at F PU
    obtain ⟨b, hb⟩ : ∃ b, decide (n ≤ 1073741824) = b := ⟨_, rfl⟩
    rw [hb] at F PU
    clear h h0
    go_enter Tryz.func127, Tryz.ntmps127
    go_wp2_with (first
      | (go_at_call 196; refine P.out.mono ?_; rintro e w1 ⟨rfl, hb1⟩)
      | (go_at_call 195; refine (PU.out w1 hb1).mono ?_; rintro e w2 ⟨rfl, hw2, ho2⟩))
    go_end0
    exact ⟨rfl, by rw [F.out]; exact hw2, (Only.of_below g hb1).trans ho2⟩
  · have e0 : decide (0 ≤ n) = false := decide_eq_false h0
    rw [show decide (0 ≤ n ∧ n ≤ 1073741824) = false by rw [decide_eq_false_iff_not]; omega] at F PU
    clear h h0
    go_enter Tryz.func127, Tryz.ntmps127
    go_wp2_with (first
      | (go_at_call 196; refine P.out.mono ?_; rintro e w1 ⟨rfl, hb1⟩)
      | (go_at_call 195; refine (PU.out w1 hb1).mono ?_; rintro e w2 ⟨rfl, hw2, ho2⟩))
    go_end0
    exact ⟨rfl, by rw [F.out]; exact hw2, (Only.of_below g hb1).trans ho2⟩
set_option maxRecDepth 100000 in
set_option maxHeartbeats 2000000 in
theorem rwtext_calls (g : Nat) (x : Sp.W) (s : ByteArray) (w : World) (h : isRW w g x) (hlen : x.1.length ≤ 100000000000000) (hs : s.size < 4294967200) :
    Calls Tryz.prog 197 #[.pointer (some ⟨g, 0, none⟩), .string s] w fun e' w' => e' = .returned (.tuple #[]) ∧ isRW w' g (Sp.wtext s.data.toList x) ∧ Only g w w' := by
  have P := Lib.hid (rput_calls (s.size : Int) w)
  have hdl : s.data.toList.length = s.size := by simp
  have hp := Sp.put_len (s.size : Int)
  have PU := Lib.hid fun (W : World) (hb : Below w.heap.size w W) => rwput_calls g x (decide ((s.size : Int) ≤ 65536)) (Sp.put (s.size : Int) ++ s.data.toList) W (h.below hb) (by rw [List.length_append]; omega)
  have F := Lib.hid (show Sp.wtext s.data.toList x = Sp.wput (decide ((s.size : Int) ≤ 65536)) (Sp.put (s.size : Int) ++ s.data.toList) x by
    unfold Sp.wtext; rw [hdl, show decide ((s.size : Int) ≤ 65536) = decide (s.size ≤ 65536) by rw [decide_eq_decide]; omega])
  have a1 : strOf (Sp.put (s.size : Int)) ++ s = strOf (Sp.put (s.size : Int) ++ s.data.toList) := by
    have := strOf_append (strOf (Sp.put (s.size : Int))) s.data.toList
    rwa [strOf_self, strOf_data] at this
  have s1 : (strOf (Sp.put (s.size : Int))).size ≤ 5 := by rw [strOf_size]; exact hp
  obtain ⟨p, hpp⟩ : ∃ p, p = strOf (Sp.put (s.size : Int)) := ⟨_, rfl⟩
  rw [← hpp] at a1 s1 P
  obtain ⟨b, hb⟩ : ∃ b, decide ((s.size : Int) ≤ 65536) = b := ⟨_, rfl⟩
  rw [hb] at F PU
  clear h hdl hp hpp
  go_enter Tryz.func197, Tryz.ntmps197
  go_wp2_with (first
    | (go_at_call 196; refine P.out.mono ?_; rintro e w1 ⟨rfl, hb1⟩)
    | (go_at_call 195; refine (PU.out w1 hb1).mono ?_; rintro e w2 ⟨rfl, hw2, ho2⟩))
  go_end0
  exact ⟨rfl, by rw [F.out]; exact hw2, (Only.of_below g hb1).trans ho2⟩
set_option maxRecDepth 100000 in
set_option maxHeartbeats 1000000 in
theorem rwdone_calls (g : Nat) (x : Sp.W) (w : World) (h : isRW w g x) :
    Calls Tryz.prog 130 #[.pointer (some ⟨g, 0, none⟩)] w fun e' w' => e' = .returned (.tuple #[.string (strOf (Sp.wdone x).1), .int .i64 (Sp.wdone x).2]) ∧ Below w.heap.size w w' := by
  have c0 := (h.cell 0).trans rfl
  have c1 := (h.cell 1).trans rfl
  by_cases h1 : x.2 = 0
  · have F := Lib.hid (show Sp.wdone x = (x.1, 0) from if_pos h1)
    rw [h1] at c1
    clear h h1
    go_enter Tryz.func130, Tryz.ntmps130
    go_wp2_with fail
    first | (have mixed : Tryz.prog.follows .mixedOrders = true := by kernel_rfl
             go_region_o) | skip
    all_goals
      go_wp2_with fail
      go_ret2
      exact ⟨by rw [F.out]; rfl, Below.refl _ _⟩
  · have F := Lib.hid (show Sp.wdone x = ([], x.2) from if_neg h1)
    have e1 : (x.2 == 0) = false := by simpa using h1
    clear h h1
    go_enter Tryz.func130, Tryz.ntmps130
    go_wp2_with fail
    have mixed : Tryz.prog.follows .mixedOrders = true := by kernel_rfl
    go_region_o
    all_goals
      go_wp2_with fail
      go_ret2
      exact ⟨by rw [F.out]; rfl, (Below.refl _ _).drew⟩
end Go.Proofs.YtmlfnidckfeebaaGreatDoor
namespace Go.Proofs.YtmlfnidckfeebaaGreatDoor
open Go.RowKit
namespace Sp
theorem padding_len (n m : Nat) : (padding n m).length = 9 + (119 - n % 64) % 64 := by
  unfold padding; rw [List.length_append, List.length_cons, List.length_replicate, be8_len]; omega
theorem pad_len (l : Bs) : (pad l).length % 64 = 0 := by
  unfold pad; rw [List.length_append, padding_len]; omega
end Sp
theorem not_nat (x : UInt32) : (~~~x).toNat = 4294967295 - x.toNat := by
  show (~~~x.toBitVec).toNat = _
  rw [BitVec.toNat_not]; rfl
theorem w_not (x : UInt32) : IntKind.u32.wrap ((4294967295 : Int) - wd x) = wd (~~~x) := by
  have h := x.toNat_lt
  unfold wd
  rw [w32, not_nat]; omega
end Go.Proofs.YtmlfnidckfeebaaGreatDoor
namespace Go.Proofs.YtmlfnidckfeebaaGreatDoor
open Go.RowKit
namespace Sp
/-- A writer that has failed stays what it is. -/
theorem wput_stop (b : Bool) (s : Bs) (x : W) (h : x.2 ≠ 0) : wput b s x = x := if_pos h
theorem wvers_stop : ∀ (l : List Ver) (x : W), x.2 ≠ 0 → wvers l x = x
  | [], _, _ => rfl
  | v :: r, x, h => by
    have hd : ∀ (d : List Dot), wdots d x = x := by
      intro d; induction d with
      | nil => rfl
      | cons a t ih => show wdots t (wdot a x) = x; unfold wdot wnum; rw [wput_stop _ _ _ h, wput_stop _ _ _ h, ih]
    have hw : wvec v.past x = x := by
      unfold wvec wnum
      split
      · exact if_neg h
      · rw [wput_stop _ _ _ h, hd]
    have hv : wver v x = x := by
      unfold wver wtext wflag wdot wnum
      rw [wput_stop _ _ _ h, wput_stop _ _ _ h, hw, wput_stop _ _ _ h, wput_stop _ _ _ h]
    show wvers r (wver v x) = x
    rw [hv, wvers_stop r x h]
theorem wleaf_stop (l : List Ver) (x : W) (h : x.2 ≠ 0) : wleaf l x = x := by
  unfold wleaf
  split
  · exact if_neg h
  · unfold wnum; rw [wput_stop _ _ _ h, wvers_stop l x h]
theorem wkids_stop : ∀ (l : List Kid) (x : W), x.2 ≠ 0 → wkids l x = x
  | [], _, _ => rfl
  | k :: r, x, h => by
    show wkids r (wkid k x) = x
    unfold wkid wdigest wtext
    rw [wput_stop _ _ _ h, wput_stop _ _ _ h, wkids_stop r x h]
/-- What the document writes. -/
def rnode (n : Node) : W := wkids n.2 (wnum n.2.length (wleaf n.1 (wfail (ncheck n) ([], 0))))
theorem rnode_ok (n : Node) : wdone (rnode n) = nbytes n := by
  unfold rnode nbytes
  by_cases h : ncheck n = 0
  · rw [if_neg (by simpa using h), h]; rfl
  · have e : wfail (ncheck n) ([], 0) = ([], ncheck n) := rfl
    rw [if_pos h, e, wleaf_stop _ _ h]
    unfold wnum
    rw [wput_stop _ _ _ h, wkids_stop _ _ h]
    exact if_neg h
end Sp
end Go.Proofs.YtmlfnidckfeebaaGreatDoor
namespace Go.Proofs.YtmlfnidckfeebaaGreatDoor
open Go.RowKit
attribute [local go_sem] yUpon
namespace Sp
end Sp
set_option maxRecDepth 100000 in
set_option maxHeartbeats 2000000 in
theorem rvsame_calls (l m : List Sp.Dot) (A B : Option Addr) (cap cap' : Nat) (w : World) (h : Dots w A l) (hl : l.length ≤ 140737488351232) (h' : Dots w B m) (hl' : m.length ≤ 140737488351232) :
    Calls Tryz.prog 155 #[.slice A l.length cap, .slice B m.length cap'] w fun e w' => e = .returned (.bool (decide (l = m))) ∧ Ext w w' := by
  by_cases hlm : l.length = m.length
  · have b0 : ((l.length : Int) == (m.length : Int)) = true := by rw [hlm]; simp
    have b1 : ((l.length : Int) != (m.length : Int)) = false := by rw [hlm]; simp
    have HL := Lib.hid hlm
    clear hlm
    go_enter Tryz.func155, Tryz.ntmps155
    go_wp2
    go_loopw [5] (fun v13 wr => ∃ k : Nat, k ≤ l.length ∧ v13 = .int .i64 k ∧ decide (l = m) = decide (l.drop k = m.drop k) ∧ Ext w wr) (fun v13 _ => l.length - (intOf v13).toNat)
    case atStart => exact ⟨0, Nat.zero_le _, rfl, rfl, Ext.refl _⟩
    case round =>
      obtain ⟨k, hk, rfl, hv, hb⟩ := hrel
      by_cases hlt : k < l.length
      · have hlt' : k < m.length := by have := HL.out; omega
        obtain ⟨g, o, rfl, hc⟩ := (h.ext hb).at (by omega)
        obtain ⟨g', o', rfl, hc'⟩ := (h'.ext hb).at (by omega)
        obtain ⟨c1, c2⟩ := hc k hlt
        obtain ⟨d1, d2⟩ := hc' k hlt'
        rw [Sp.beq_drop l m k hlt hlt'] at hv
        have HV := Lib.hid hv
        clear hv hc hc'
        go_wp2_with fail
        have hg := dot_guard
        have hq := deq_in l[k] m[k]
        refine wp_region_det (fun W => Ext wr W) (by kernel_rfl) (by kernel_rfl) (Below.refl _ _).drew ?_
        repeat (first
          | (refine det_step (fun K hK => ?_)
             apply Exists.intro
             refine ⟨Or.inl ⟨rfl, fun W hS => ?_⟩, ?_⟩
             · replace hS : Ext wr W := hS
               have f1 := hS.cell c1; have f2 := hS.cell c2; have f3 := hS.cell d1; have f4 := hS.cell d2
               go_simp
               first
               | exact rfl
               | exact ⟨rfl, hS⟩
               | (fail)
             go_simp
             refine hK _ ?_
             clear hK K)
          | (refine det_step (fun K hK => ?_); refine det_no' rfl ?_; go_simp; refine hK _ ?_; clear hK K))
        refine det_nil ?_
        intro W9 hS
        replace hS : Ext _ W9 := hS
        clear hg hq
        go_wp2
        · go_ret
          refine ⟨?_, hb.trans hS⟩
          have := HV.out
          simp_all
        · go_roundw
          case rel =>
            refine ⟨k + 1, by omega, by go_num, ?_, hb.trans hS⟩
            have := HV.out
            simp_all
          case measure => simp [intOf]; omega
      · obtain rfl : k = l.length := by omega
        have HV := Lib.hid hv
        clear hv
        go_wp2
        go_ret
        exact ⟨by rw [HV.out, List.drop_length, HL.out, List.drop_length]; rfl, hb⟩
  · have b0 : ((l.length : Int) == (m.length : Int)) = false := by rw [beq_eq_false_iff_ne]; omega
    have b1 : ((l.length : Int) != (m.length : Int)) = true := by rw [bne_iff_ne]; omega
    have F := Lib.hid (show decide (l = m) = false by rw [decide_eq_false_iff_not]; rintro rfl; exact hlm rfl)
    clear hlm
    go_enter Tryz.func155, Tryz.ntmps155
    go_wp2
    go_ret
    exact ⟨by rw [F.out]; rfl, Ext.refl _⟩
end Go.Proofs.YtmlfnidckfeebaaGreatDoor
namespace Go.Proofs.YtmlfnidckfeebaaGreatDoor
open Go.RowKit Go.Shelf
attribute [local go_sem] yUpon
namespace Sp
end Sp
set_option maxRecDepth 100000 in
set_option maxHeartbeats 4000000 in
theorem rsamever_calls (a b : Sp.Ver) (A B : Option Addr) (cap cap' : Nat) (w : World) (h : Past w A a) (h' : Past w B b) :
    Calls Tryz.prog 85 #[verV A cap a, verV B cap' b] w fun e w' => e = .returned (.bool (decide (a = b))) ∧ Ext w w' := by
  have C := Lib.hid fun W (e : Ext w W) => rvsame_calls a.past b.past A B cap cap' W (h.1.ext e) h.2 (h'.1.ext e) h'.2
  have F := Lib.hid (Sp.ver_eq a b)
  have tl := strOf_toList a.data
  have tl' := strOf_toList b.data
  have hg := dot_guard
  have hq := deq_in a.dot b.dot
  clear h h'
  by_cases h1 : a.dot = b.dot
  · by_cases h2 : a.dead = b.dead
    · by_cases h3 : a.data = b.data
      · have q1 : decide (a.dot = b.dot) = true := decide_eq_true h1
        have q2 : (a.dead == b.dead) = true := by simpa using h2
        have q3 : (a.data == b.data) = true := by simpa using h3
        rw [q1, q2, q3] at F
        clear h1 h2 h3
        go_enter Tryz.func85, Tryz.ntmps85
        go_wp2_with (go_at_call 155; refine (C.out _ ((Ext.alloc _ _).trans (Ext.alloc _ _))).mono ?_; rintro e w1 ⟨rfl, hb1⟩)
        go_ret
        exact ⟨by rw [F.out]; rfl, ((Ext.alloc _ _).trans (Ext.alloc _ _)).trans hb1⟩
      · have q1 : decide (a.dot = b.dot) = true := decide_eq_true h1
        have q2 : (a.dead == b.dead) = true := by simpa using h2
        have q3 : (a.data == b.data) = false := by simpa using h3
        rw [q1, q2, q3] at F
        clear h1 h2 h3
        go_enter Tryz.func85, Tryz.ntmps85
        go_wp2_with fail
        go_ret
        exact ⟨by rw [F.out]; rfl, (Ext.alloc _ _).trans (Ext.alloc _ _)⟩
    · have q1 : decide (a.dot = b.dot) = true := decide_eq_true h1
      have q2 : (a.dead == b.dead) = false := by simpa using h2
      rw [q1, q2] at F
      clear h1 h2
      go_enter Tryz.func85, Tryz.ntmps85
      go_wp2_with fail
      go_ret
      exact ⟨by rw [F.out]; rfl, (Ext.alloc _ _).trans (Ext.alloc _ _)⟩
  · have q1 : decide (a.dot = b.dot) = false := decide_eq_false h1
    rw [q1] at F
    clear h1
    go_enter Tryz.func85, Tryz.ntmps85
    go_wp2_with fail
    go_ret
    exact ⟨by rw [F.out]; rfl, (Ext.alloc _ _).trans (Ext.alloc _ _)⟩
end Go.Proofs.YtmlfnidckfeebaaGreatDoor
namespace Go.Proofs.YtmlfnidckfeebaaGreatDoor
open Go.RowKit Go.Shelf
attribute [local go_sem] yUpon
set_option maxRecDepth 100000 in
set_option maxHeartbeats 4000000 in
theorem rsame_calls (l m : List Sp.Ver) (A B : Option Addr) (cap cap' : Nat) (w : World) (h : Vers w A l) (h' : Vers w B m) (hl : l.length ≤ 140737488351232) :
    Calls Tryz.prog 28 #[.slice A l.length cap, .slice B m.length cap'] w fun e w' => e = .returned (.bool (decide (l = m))) ∧ Ext w w' := by
  by_cases hlm : l.length = m.length
  · have b0 : ((l.length : Int) == (m.length : Int)) = true := by rw [hlm]; simp
    have b1 : ((l.length : Int) != (m.length : Int)) = false := by rw [hlm]; simp
    have HL := Lib.hid hlm
    clear hlm
    go_enter Tryz.func28, Tryz.ntmps28
    go_wp2
    go_loopw [5] (fun v13 wr => ∃ k : Nat, k ≤ l.length ∧ v13 = .int .i64 k ∧ decide (l = m) = decide (l.drop k = m.drop k) ∧ Ext w wr) (fun v13 _ => l.length - (intOf v13).toNat)
    case atStart => exact ⟨0, Nat.zero_le _, rfl, rfl, Ext.refl _⟩
    case round =>
      obtain ⟨k, hk, rfl, hv, hb⟩ := hrel
      by_cases hlt : k < l.length
      · have hlt' : k < m.length := by have := HL.out; omega
        obtain ⟨g, o, rfl, hc⟩ := (h.ext hb).at (by omega)
        obtain ⟨g', o', rfl, hc'⟩ := (h'.ext hb).at (by omega)
        obtain ⟨A', ca, ⟨c0, c1, c2, c3, c4⟩, hp⟩ := hc k hlt
        obtain ⟨B', cb, ⟨d0, d1, d2, d3, d4⟩, hp'⟩ := hc' k hlt'
        rw [Sp.beq_drop l m k hlt hlt'] at hv
        have HV := Lib.hid hv
        have C := Lib.hid fun W (e : Ext wr W) => rsamever_calls l[k] m[k] A' B' ca cb W (hp.ext e) (hp'.ext e)
        clear hv hc hc' hp hp'
        go_wp2_with fail
        refine wp_region_det (fun W => Ext wr W) (by kernel_rfl) (by kernel_rfl) (Below.refl _ _).drew ?_
        repeat (first
          | (refine det_step (fun K hK => ?_)
             apply Exists.intro
             refine ⟨Or.inl ⟨rfl, fun W hS => ?_⟩, ?_⟩
             · replace hS : Ext wr W := hS
               have f0 := hS.cell c0; have f1 := hS.cell c1; have f2 := hS.cell c2; have f3 := hS.cell c3; have f4 := hS.cell c4; have z0 := hS.cell d0; have z1 := hS.cell d1; have z2 := hS.cell d2; have z3 := hS.cell d3; have z4 := hS.cell d4
               go_simp
               first
               | exact rfl
               | exact ⟨rfl, hS⟩
               | (refine (C.out W hS).mono ?_; rintro e w1 ⟨rfl, hb1⟩; exact ⟨rfl, hS.trans hb1⟩)
             go_simp
             refine hK _ ?_
             clear hK K)
          | (refine det_step (fun K hK => ?_); refine det_no' rfl ?_; go_simp; refine hK _ ?_; clear hK K))
        refine det_nil ?_
        intro W9 hS
        replace hS : Ext _ W9 := hS
        go_wp2
        · go_ret
          refine ⟨?_, hb.trans hS⟩
          have := HV.out
          simp_all
        · go_roundw
          case rel =>
            refine ⟨k + 1, by omega, by go_num, ?_, hb.trans hS⟩
            have := HV.out
            simp_all
          case measure => simp [intOf]; omega
      · obtain rfl : k = l.length := by omega
        have HV := Lib.hid hv
        clear hv
        go_wp2
        go_ret
        exact ⟨by rw [HV.out, List.drop_length, HL.out, List.drop_length]; rfl, hb⟩
  · have b0 : ((l.length : Int) == (m.length : Int)) = false := by rw [beq_eq_false_iff_ne]; omega
    have b1 : ((l.length : Int) != (m.length : Int)) = true := by rw [bne_iff_ne]; omega
    have F := Lib.hid (show decide (l = m) = false by rw [decide_eq_false_iff_not]; rintro rfl; exact hlm rfl)
    clear hlm
    go_enter Tryz.func28, Tryz.ntmps28
    go_wp2
    go_ret
    exact ⟨by rw [F.out]; rfl, Ext.refl _⟩
end Go.Proofs.YtmlfnidckfeebaaGreatDoor
namespace Go.Proofs.YtmlfnidckfeebaaGreatDoor
open Go.RowKit Go.Shelf
namespace Sp
theorem wfail_zero (x : W) : wfail 0 x = x := by
  unfold wfail
  split
  · rename_i h; obtain ⟨a, b⟩ := x; simp at h; rw [h]
  · rfl
theorem wfail_bad (e : Int) (x : W) (h : e ≠ 0) : (wfail e x).2 ≠ 0 := by
  unfold wfail; split
  · exact h
  · assumption
theorem wput_bad (b : Bool) (s : Bs) (x : W) (h : x.2 ≠ 0) : wput b s x = x := by unfold wput; rw [if_pos h]
theorem wnum_bad (n : Int) (x : W) (h : x.2 ≠ 0) : wnum n x = x := wput_bad _ _ _ h
theorem wtext_bad (s : Bs) (x : W) (h : x.2 ≠ 0) : wtext s x = x := wput_bad _ _ _ h
theorem wflag_bad (b : Bool) (x : W) (h : x.2 ≠ 0) : wflag b x = x := wput_bad _ _ _ h
theorem wdot_bad (d : Dot) (x : W) (h : x.2 ≠ 0) : wdot d x = x := by unfold wdot; rw [wnum_bad d.1 x h, wnum_bad d.2 x h]
theorem wdots_bad : ∀ (l : List Dot) (x : W), x.2 ≠ 0 → wdots l x = x
  | [], _, _ => rfl
  | d :: r, x, h => by
    have := wdots_bad r x h
    unfold wdots at *
    rw [List.foldl_cons, wdot_bad d x h, this]
theorem wfail_done (e : Int) (x : W) (h : x.2 ≠ 0) : wfail e x = x := by unfold wfail; rw [if_neg h]
theorem wvec_bad (v : List Dot) (x : W) (h : x.2 ≠ 0) : wvec v x = x := by
  unfold wvec; split
  · exact wfail_done _ _ h
  · rw [wnum_bad _ _ h, wdots_bad _ _ h]
theorem wver_bad (v : Ver) (x : W) (h : x.2 ≠ 0) : wver v x = x := by
  unfold wver; rw [wdot_bad _ _ h, wvec_bad _ _ h, wflag_bad _ _ h, wtext_bad _ _ h]
theorem wvers_bad : ∀ (l : List Ver) (x : W), x.2 ≠ 0 → wvers l x = x
  | [], _, _ => rfl
  | d :: r, x, h => by
    have := wvers_bad r x h
    unfold wvers at *
    rw [List.foldl_cons, wver_bad d x h, this]
/-- As the reference puts it. -/
theorem wvec_ref (v : List Dot) (x : W) : wdots v (wnum v.length (wfail (vcheck v) x)) = wvec v x := by
  unfold wvec
  by_cases h : vcheck v = 0
  · rw [if_neg (by simpa using h), h, wfail_zero]
  · rw [if_pos h]
    have := wfail_bad (vcheck v) x h
    rw [wnum_bad _ _ this, wdots_bad _ _ this]
theorem wleaf_ref (l : List Ver) (x : W) : wvers l (wnum l.length (wfail (leaf l) x)) = wleaf l x := by
  unfold wleaf
  by_cases h : leaf l = 0
  · rw [if_neg (by simpa using h), h, wfail_zero]
  · rw [if_pos h]
    have := wfail_bad (leaf l) x h
    rw [wnum_bad _ _ this, wvers_bad _ _ this]
end Sp
set_option maxRecDepth 100000 in
set_option maxHeartbeats 2000000 in
theorem rwflag_calls (g : Nat) (x : Sp.W) (b : Bool) (w : World) (h : isRW w g x) (hlen : x.1.length ≤ 100000000000000) :
    Calls Tryz.prog 254 #[.pointer (some ⟨g, 0, none⟩), .bool b] w fun e w' => e = .returned (.tuple #[]) ∧ RTo g (Sp.wflag b x) w w' := by
  cases b with
  | true =>
    have P := Lib.hid (rwput_calls g x true [1] w h (by simp; omega))
    clear h
    go_enter Tryz.func254, Tryz.ntmps254
    go_wp2_with fail
    refine P.out.mono ?_
    rintro e w1 ⟨rfl, h1, h2⟩
    go_wp2
    go_end0
    exact ⟨rfl, h1, h2⟩
  | false =>
    have P := Lib.hid (rwput_calls g x true [0] w h (by simp; omega))
    clear h
    go_enter Tryz.func254, Tryz.ntmps254
    go_wp2_with fail
    refine P.out.mono ?_
    rintro e w1 ⟨rfl, h1, h2⟩
    go_wp2
    go_end0
    exact ⟨rfl, h1, h2⟩
set_option maxRecDepth 100000 in
set_option maxHeartbeats 4000000 in
theorem rputvec_calls (w0 : World) (g : Nat) (x : Sp.W) (l : List Sp.Dot) (A : Option Addr) (cap : Nat) (w : World) (E : Ext w0 w) (hg : w0.heap.size ≤ g) (h : isRW w g x) (hD : Dots w0 A l) (hl : l.length ≤ 1000000) (hlen : x.1.length ≤ 10000000000000) :
    Calls Tryz.prog 128 #[.pointer (some ⟨g, 0, none⟩), .slice A l.length cap] w fun e w' => e = .returned (.tuple #[]) ∧ RTo g (Sp.wvec l x) w w' := by
  have F := Lib.hid (Sp.wvec_ref l x)
  have C1 := Lib.hid (rvcheck_calls l A cap w (hD.ext E) (by omega))
  have C2 := Lib.hid fun W (e : Ext w W) => rwfail_calls g x (Sp.vcheck l) W (h.below e)
  have lf := Sp.wfail_len (Sp.vcheck l) x
  have C3 := Lib.hid fun W (hw : isRW W g (Sp.wfail (Sp.vcheck l) x)) => rwnum_calls g _ l.length W hw (by omega)
  have ln := Sp.wnum_len (l.length : Int) (Sp.wfail (Sp.vcheck l) x)
  obtain ⟨y, hy⟩ : ∃ y, y = Sp.wnum (l.length : Int) (Sp.wfail (Sp.vcheck l) x) := ⟨_, rfl⟩
  rw [← hy] at C3 F ln
  clear h hy
  go_enter Tryz.func128, Tryz.ntmps128
  go_wp2_with fail
  refine C1.out.mono ?_
  rintro e w1 ⟨rfl, hb1⟩
  have B1 := Lib.hid hb1
  clear hb1
  go_wp2_with fail
  refine (C2.out w1 B1.out).mono ?_
  rintro e w2 ⟨rfl, hr2, ho2⟩
  have O2 := Lib.hid ((Only.of_below g B1.out).trans ho2)
  have C3' := Lib.hid (C3.out w2 hr2)
  clear ho2 hr2
  go_wp2_with fail
  refine C3'.out.mono ?_
  rintro e w3 ⟨rfl, hr3, ho3⟩
  have R3 := Lib.hid (show RTo g y w w3 from ⟨hr3, O2.out.trans ho3⟩)
  clear hr3 ho3
  go_wp2_with fail
  go_loopw [4] (fun v4 wr => ∃ i : Nat, i ≤ l.length ∧ v4 = .int .i64 i ∧ RTo g (Sp.wdots (l.take i) y) w wr) (fun v4 _ => l.length - (intOf v4).toNat)
  case atStart => exact ⟨0, Nat.zero_le _, rfl, R3.out⟩
  case round =>
    obtain ⟨i, hi, rfl, hw⟩ := hrel
    by_cases hlt : i < l.length
    · have eW := hw.ext hg E
      obtain ⟨ga, o, rfl, hc⟩ := hD.at (by omega)
      obtain ⟨c1', c2'⟩ := hc i hlt
      have c1 := eW.cell c1'
      have hyl := Sp.wdots_len (l.take i) y
      rw [List.length_take] at hyl
      have hl2 := Sp.wnum_len l[i].1 (Sp.wdots (l.take i) y)
      have D1 := Lib.hid (rwnum_calls g (Sp.wdots (l.take i) y) l[i].1 wr hw.wr (by omega))
      have D2 := Lib.hid fun W (h : isRW W g (Sp.wnum l[i].1 (Sp.wdots (l.take i) y))) => rwnum_calls g _ l[i].2 W h (by omega)
      have ST := Lib.hid (show Sp.wdots (l.take (i + 1)) y = Sp.wnum l[i].2 (Sp.wnum l[i].1 (Sp.wdots (l.take i) y)) by rw [List.take_succ_eq_append_getElem hlt, Sp.wdots_snoc]; rfl)
      have HW := Lib.hid hw.only
      have EW := Lib.hid eW
      have C2' := Lib.hid c2'
      clear hc hw eW hyl hl2 c1' c2'
      go_wp2_with fail
      refine D1.out.mono ?_
      rintro e w4 ⟨rfl, hr4, ho4⟩
      have E4 := EW.out.from' (ho4.below hg EW.out.size)
      have c2 := E4.cell C2'.out
      have D2' := Lib.hid (D2.out w4 hr4)
      have O4 := Lib.hid (HW.out.trans ho4)
      clear hr4 ho4 E4 c1
      go_wp2_with fail
      refine D2'.out.mono ?_
      rintro e w5 ⟨rfl, hr5, ho5⟩
      have R5 := Lib.hid hr5
      have O5 := Lib.hid (O4.out.trans ho5)
      clear hr5 ho5
      go_wp2_with fail
      go_roundw
      case rel => exact ⟨i + 1, by omega, by go_num, by rw [ST.out]; exact R5.out, O5.out⟩
      case measure => simp [intOf]; omega
    · obtain rfl : i = l.length := by omega
      rw [List.take_length] at hw
      have HW := Lib.hid hw
      clear hw
      go_wp2_with fail
      go_end0
      exact ⟨rfl, by rw [← F.out]; exact HW.out.wr, HW.out.only⟩
set_option maxRecDepth 100000 in
set_option maxHeartbeats 4000000 in
theorem rputleaf_calls (w0 : World) (g : Nat) (x : Sp.W) (l : List Sp.Ver) (A : Option Addr) (cap : Nat) (w : World) (E : Ext w0 w) (hg : w0.heap.size ≤ g) (h : isRW w g x) (hD : Vers w0 A l) (hl : l.length ≤ 1000) (hd : ∀ v ∈ l, v.data.length ≤ 100000 ∧ v.past.length ≤ 100000) (hlen : x.1.length ≤ 1000000000) :
    Calls Tryz.prog 198 #[.pointer (some ⟨g, 0, none⟩), .slice A l.length cap] w fun e w' => e = .returned (.tuple #[]) ∧ RTo g (Sp.wleaf l x) w w' := by
  have F := Lib.hid (Sp.wleaf_ref l x)
  have C1 := Lib.hid (rleaf_calls l A cap w (hD.ext E))
  have C2 := Lib.hid fun W (e : Ext w W) => rwfail_calls g x (Sp.leaf l) W (h.below e)
  have lf := Sp.wfail_len (Sp.leaf l) x
  have C3 := Lib.hid fun W (hw : isRW W g (Sp.wfail (Sp.leaf l) x)) => rwnum_calls g _ l.length W hw (by omega)
  have ln := Sp.wnum_len (l.length : Int) (Sp.wfail (Sp.leaf l) x)
  obtain ⟨y, hy⟩ : ∃ y, y = Sp.wnum (l.length : Int) (Sp.wfail (Sp.leaf l) x) := ⟨_, rfl⟩
  rw [← hy] at C3 F ln
  clear h hy
  go_enter Tryz.func198, Tryz.ntmps198
  go_wp2_with fail
  refine C1.out.mono ?_
  rintro e w1 ⟨rfl, hb1⟩
  have B1 := Lib.hid hb1
  clear hb1
  go_wp2_with fail
  refine (C2.out w1 B1.out).mono ?_
  rintro e w2 ⟨rfl, hr2, ho2⟩
  have O2 := Lib.hid ((Only.of_below g B1.out).trans ho2)
  have C3' := Lib.hid (C3.out w2 hr2)
  clear ho2 hr2
  go_wp2_with fail
  refine C3'.out.mono ?_
  rintro e w3 ⟨rfl, hr3, ho3⟩
  have R3 := Lib.hid (show RTo g y w w3 from ⟨hr3, O2.out.trans ho3⟩)
  clear hr3 ho3
  go_wp2_with fail
  go_loopw [4] (fun v4 wr => ∃ i : Nat, i ≤ l.length ∧ v4 = .int .i64 i ∧ RTo g (Sp.wvers (l.take i) y) w wr) (fun v4 _ => l.length - (intOf v4).toNat)
  case atStart => exact ⟨0, Nat.zero_le _, rfl, R3.out⟩
  case round =>
    obtain ⟨i, hi, rfl, hw⟩ := hrel
    by_cases hlt : i < l.length
    · have eW := hw.ext hg E
      obtain ⟨ga, o, rfl, hc⟩ := hD.at (by omega)
      obtain ⟨A', c', hvc, hp⟩ := hc i hlt
      have c0 := eW.cell hvc.c0
      have hyl := Sp.wvers_len (l.take i) 100000 (fun v hv => (hd v (List.mem_of_mem_take hv)).1) y
      rw [List.length_take] at hyl
      have hyb : (661 + 100000) * min i l.length ≤ (661 + 100000) * 1000 := Nat.mul_le_mul_left _ (by omega)
      have hdi := hd l[i] (List.getElem_mem hlt)
      obtain ⟨z, hz⟩ : ∃ z, z = Sp.wvers (l.take i) y := ⟨_, rfl⟩
      rw [← hz] at hyl hw
      have l1 := Sp.wnum_len l[i].dot.1 z
      have l2 := Sp.wnum_len l[i].dot.2 (Sp.wnum l[i].dot.1 z)
      have l3 := Sp.wvec_len l[i].past (Sp.wdot l[i].dot z)
      have l4 := Sp.wflag_len l[i].dead (Sp.wvec l[i].past (Sp.wdot l[i].dot z))
      have l0 := Sp.wdot_len l[i].dot z
      have D1 := Lib.hid (rwnum_calls g z l[i].dot.1 wr hw.wr (by omega))
      have D2 := Lib.hid fun W (h : isRW W g (Sp.wnum l[i].dot.1 z)) => rwnum_calls g _ l[i].dot.2 W h (by omega)
      have D3 := Lib.hid fun W (e : Ext w0 W) (h : isRW W g (Sp.wdot l[i].dot z)) => rputvec_calls w0 g _ l[i].past A' c' W e hg h hp.1 (by omega) (by omega)
      have D4 := Lib.hid fun W (h : isRW W g (Sp.wvec l[i].past (Sp.wdot l[i].dot z))) => rwflag_calls g _ l[i].dead W h (by omega)
      have D5 := Lib.hid fun W (h : isRW W g (Sp.wflag l[i].dead (Sp.wvec l[i].past (Sp.wdot l[i].dot z)))) => rwtext_calls g _ (strOf l[i].data) W h (by omega) (by rw [strOf_size]; omega)
      have ST := Lib.hid (show Sp.wvers (l.take (i + 1)) y = Sp.wver l[i] z by rw [List.take_succ_eq_append_getElem hlt, Sp.wvers_snoc, hz])
      rw [strOf_data] at D5
      have HW := Lib.hid hw.only
      have EW := Lib.hid eW
      have HV := Lib.hid hvc
      clear hc hw eW hyl hyb hdi hz l1 l2 l3 l4 l0 hvc hp
      go_wp2_with fail
      refine D1.out.mono ?_
      rintro e w4 ⟨rfl, hr4, ho4⟩
      have E4 := Lib.hid (EW.out.from' (ho4.below hg EW.out.size))
      have c1 := E4.out.cell HV.out.c1
      have D2' := Lib.hid (D2.out w4 hr4)
      have O4 := Lib.hid (HW.out.trans ho4)
      clear hr4 ho4 c0
      go_wp2_with fail
      refine D2'.out.mono ?_
      rintro e w5 ⟨rfl, hr5, ho5⟩
      have E5 := Lib.hid (E4.out.from' (ho5.below hg E4.out.size))
      have c2 := E5.out.cell HV.out.c2
      have D3' := Lib.hid (D3.out w5 E5.out hr5)
      have O5 := Lib.hid (O4.out.trans ho5)
      clear hr5 ho5 c1
      go_wp2_with fail
      refine D3'.out.mono ?_
      rintro e w6 ⟨rfl, hr6⟩
      have E6 := Lib.hid (E5.out.from' (hr6.only.below hg E5.out.size))
      have c3 := E6.out.cell HV.out.c3
      have D4' := Lib.hid (D4.out w6 hr6.wr)
      have O6 := Lib.hid (O5.out.trans hr6.only)
      clear hr6 c2
      go_wp2_with fail
      refine D4'.out.mono ?_
      rintro e w7 ⟨rfl, hr7⟩
      have E7 := Lib.hid (E6.out.from' (hr7.only.below hg E6.out.size))
      have c4 := E7.out.cell HV.out.c4
      have D5' := Lib.hid (D5.out w7 hr7.wr)
      have O7 := Lib.hid (O6.out.trans hr7.only)
      clear hr7 c3
      go_wp2_with fail
      refine D5'.out.mono ?_
      rintro e w8 ⟨rfl, hr8, ho8⟩
      have R8 := Lib.hid hr8
      have O8 := Lib.hid (O7.out.trans ho8)
      clear hr8 ho8
      go_wp2_with fail
      go_roundw
      case rel => exact ⟨i + 1, by omega, by go_num, by rw [ST.out]; exact R8.out, O8.out⟩
      case measure => simp [intOf]; omega
    · obtain rfl : i = l.length := by omega
      rw [List.take_length] at hw
      have HW := Lib.hid hw
      clear hw
      go_wp2_with fail
      go_end0
      exact ⟨rfl, by rw [← F.out]; exact HW.out.wr, HW.out.only⟩
end Go.Proofs.YtmlfnidckfeebaaGreatDoor
