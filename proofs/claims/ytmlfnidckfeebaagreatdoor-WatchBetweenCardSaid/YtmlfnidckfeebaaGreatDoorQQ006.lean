/- Nodes: plain. Walks: leaves that are the same. Walks: dots and vectors as bytes. Walks: the reference's vectors and leaves as bytes. Walks: words, turned. Walks: digests as bytes. A part of a block is written, or read, at once. Walks: a block's words. -/
import Derived.Laws.Cover1
import Derived.Laws.Rows
import Derived.Deep.MidRow
import Derived.Laws.Tables
import Derived.Laws.CopyOwn
import Derived.Test.YtmlfnidckfeebaaGreatDoorQQ005
namespace Go.Proofs.YtmlfnidckfeebaaGreatDoor
open Go.RowKit
namespace Sp
abbrev Kid := Bs × Bs
abbrev Node := List Ver × List Kid
def le (a b : Bs) : Bool := Op.bytesLess a b || a == b
def kgo : Option Bs → List Kid → Int
  | _, [] => 0
  | p, k :: r => if name k.1 = false then 1 else if p.any (le k.1) = true then 8 else kgo (some k.1) r
def kcheck (l : List Kid) : Int := if 128 < l.length then 2 else kgo none l
def ncheck (n : Node) : Int := if leaf n.1 ≠ 0 then leaf n.1 else kcheck n.2
def pv (l : List Kid) (k : Nat) : Option Bs := if k = 0 then none else (l[k - 1]?).map (·.1)
theorem kgo_step (l : List Kid) (k : Nat) (h : k < l.length) : kgo (pv l k) (l.drop k) = if name l[k].1 = false then 1 else if (pv l k).any (le l[k].1) = true then 8 else kgo (pv l (k + 1)) (l.drop (k + 1)) := by
  have e : pv l (k + 1) = some l[k].1 := by simp [pv, h]
  rw [List.drop_eq_getElem_cons h, kgo, e]
def wkid (k : Kid) (x : W) : W := wdigest k.2 (wtext k.1 x)
def wkids (l : List Kid) (x : W) : W := l.foldl (fun x k => wkid k x) x
def wnode (n : Node) : W := wkids n.2 (wnum n.2.length (wleaf n.1 ([], 0)))
def nbytes (n : Node) : W := if ncheck n ≠ 0 then ([], ncheck n) else wdone (wnode n)
def nsum (n : Node) : Bs := if (nbytes n).2 ≠ 0 then List.replicate 32 0 else sha (nbytes n).1
theorem nsum_len (n : Node) : (nsum n).length = 32 := by
  unfold nsum; split
  · simp
  · exact sha_len _
theorem wkids_snoc (l : List Kid) (k : Kid) (x : W) : wkids (l ++ [k]) x = wkid k (wkids l x) := by simp [wkids]
theorem wkid_len (k : Kid) (x : W) : (wkid k x).1.length ≤ x.1.length + k.1.length + k.2.length + 20 := by
  have h1 := wput_len true k.2 (wtext k.1 x)
  have h2 := wtext_len k.1 x
  unfold wkid wdigest
  omega
theorem wkids_len (m n : Nat) : ∀ (l : List Kid) (x : W), (∀ k ∈ l, k.1.length ≤ m ∧ k.2.length ≤ n) → (wkids l x).1.length ≤ x.1.length + l.length * (m + n + 20)
  | [], x, _ => by simp [wkids]
  | k :: r, x, h => by
    have h1 := wkids_len m n r (wkid k x) (fun j hj => h j (List.mem_cons_of_mem _ hj))
    have h2 := wkid_len k x
    have h3 := h k (List.mem_cons_self ..)
    rw [show wkids (k :: r) x = wkids r (wkid k x) from rfl, List.length_cons, Nat.succ_mul]
    omega
theorem wput_some (b : Bool) (s : Bs) (x : W) (h : x.2 = 0 → x.1 ≠ []) : (wput b s x).2 = 0 → (wput b s x).1 ≠ [] := by
  unfold wput
  split
  · rename_i h2; intro h3; exact absurd h3 h2
  · rename_i h2
    have := h (by simpa using h2)
    split
    · intro _; simp [this]
    · intro h3; cases h3
theorem wkids_some : ∀ (l : List Kid) (x : W), (x.2 = 0 → x.1 ≠ []) → (wkids l x).2 = 0 → (wkids l x).1 ≠ []
  | [], _, h => h
  | k :: r, x, h => wkids_some r (wkid k x) (wput_some _ _ _ (wput_some _ _ _ h))
theorem wnum_some (n : Int) (x : W) : (wnum n x).2 = 0 → (wnum n x).1 ≠ [] := by
  unfold wnum wput
  split
  · rename_i h2; intro h3; exact absurd h3 h2
  · split
    · rename_i hd
      have h5 := put_ne.2 (of_decide_eq_true hd)
      intro _; simp [h5]
    · intro h3; cases h3
theorem wnode_some (n : Node) : (wnode n).2 = 0 → (wnode n).1 ≠ [] := wkids_some _ _ (wnum_some _ _)
theorem ncheck_ok {n : Node} (h : ncheck n = 0) : leaf n.1 = 0 ∧ n.2.length ≤ 128 ∧ kgo none n.2 = 0 := by
  unfold ncheck at h
  split at h
  · rename_i h2; exact absurd h h2
  · rename_i h2
    unfold kcheck at h
    split at h
    · cases h
    · exact ⟨by simpa using h2, by omega, h⟩
end Sp
def kidL (k : Sp.Kid) : List Value := .string (strOf k.1) :: k.2.map byteV
def kidsC : List Sp.Kid → List Value
  | [] => []
  | k :: r => kidL k ++ kidsC r
def KidsOk (l : List Sp.Kid) : Prop := ∀ k ∈ l, k.2.length = 32 ∧ k.1.length ≤ 1000000
theorem kidL_len (k : Sp.Kid) (h : k.2.length = 32) : (kidL k).length = 33 := by simp [kidL, h]
theorem kidsC_len : ∀ (l : List Sp.Kid), KidsOk l → (kidsC l).length = l.length * 33
  | [], _ => rfl
  | k :: r, h => by
    rw [kidsC, List.length_append, kidL_len k (h k (List.mem_cons_self ..)).1, kidsC_len r (fun j hj => h j (List.mem_cons_of_mem _ hj)), List.length_cons]; omega
theorem kidsC_append (l m : List Sp.Kid) : kidsC (l ++ m) = kidsC l ++ kidsC m := by
  induction l with
  | nil => rfl
  | cons k r ih => rw [List.cons_append, kidsC, ih, kidsC, List.append_assoc]
theorem kidsC_get (l : List Sp.Kid) (k : Nat) (hk : k < l.length) (h : KidsOk l) (j : Nat) (v : Value) (hv : (kidL l[k])[j]? = some v) : (kidsC l)[k * 33 + j]? = some v := by
  have e : l = l.take k ++ l[k] :: l.drop (k + 1) := by rw [← List.drop_eq_getElem_cons hk, List.take_append_drop]
  have ht : (kidsC (l.take k)).length = k * 33 := by
    rw [kidsC_len _ (fun x hx => h x (List.mem_of_mem_take hx)), List.length_take, Nat.min_eq_left (Nat.le_of_lt hk)]
  have hj : j < (kidL l[k]).length := by
    rcases Nat.lt_or_ge j (kidL l[k]).length with h | h
    · exact h
    · rw [List.getElem?_eq_none h] at hv; cases hv
  have e2 : kidsC l = kidsC (l.take k) ++ (kidL l[k] ++ kidsC (l.drop (k + 1))) := by
    rw [← kidsC, ← kidsC_append, ← e]
  rw [e2, List.getElem?_append_right (by omega), ht, show k * 33 + j - k * 33 = j by omega, List.getElem?_append_left hj]
  exact hv
def Kids (w : World) (A : Option Addr) (l : List Sp.Kid) : Prop := Cells w A (kidsC l) ∧ KidsOk l
theorem Kids.ext {w w' : World} {A : Option Addr} {l : List Sp.Kid} (h : Kids w A l) (e : Ext w w') : Kids w' A l := ⟨h.1.ext e, h.2⟩
theorem Kids.nil (w : World) (A : Option Addr) : Kids w A [] := ⟨Cells.nil _ _, fun _ h => by cases h⟩
theorem Kids.at {w : World} {A : Option Addr} {l : List Sp.Kid} (h : Kids w A l) (hn : 0 < l.length) : ∃ g o, A = some ⟨g, o, none⟩ ∧ ∀ k (h : k < l.length), w.rangeAt g (o + k * 33) (kidL l[k]) := by
  obtain ⟨g, o, hA, hc⟩ := h.1 (by
    intro e
    have := kidsC_len l h.2
    rw [e] at this
    simp at this
    omega)
  refine ⟨g, o, hA, fun k hk j v hv => ?_⟩
  rw [Nat.add_assoc]
  exact hc _ _ (kidsC_get l k hk h.2 j v hv)
theorem kid_name {w : World} {g o : Nat} {k : Sp.Kid} (h : w.rangeAt g o (kidL k)) : w.cell? ⟨g, o, none⟩ = some (.string (strOf k.1)) := h 0 _ rfl
end Go.Proofs.YtmlfnidckfeebaaGreatDoor
namespace Go.Proofs.YtmlfnidckfeebaaGreatDoor
open Go.RowKit Go.Shelf
attribute [local go_sem] yUpon
set_option maxRecDepth 100000 in
set_option maxHeartbeats 4000000 in
theorem verequal_calls (l m : List Sp.Ver) (A B : Option Addr) (cap cap' : Nat) (w : World) (h : Vers w A l) (h' : Vers w B m) (hl : l.length ≤ 140737488351232) :
    Calls Tryz.prog 144 #[.slice A l.length cap, .slice B m.length cap', .func (.func 145) #[] #[]] w fun e w' => e = .returned (.bool (decide (l = m))) ∧ Ext w w' := by
  by_cases hlm : l.length = m.length
  · have b0 : ((l.length : Int) == (m.length : Int)) = true := by rw [hlm]; simp
    have b1 : ((l.length : Int) != (m.length : Int)) = false := by rw [hlm]; simp
    have HL := Lib.hid hlm
    clear hlm
    go_enter Tryz.func144, Tryz.ntmps144
    go_wp2
    go_loopw [17] (fun v13 wr => ∃ k : Nat, k ≤ l.length ∧ v13 = .int .i64 k ∧ decide (l = m) = decide (l.drop k = m.drop k) ∧ Ext w wr) (fun v13 _ => l.length - (intOf v13).toNat)
    case atStart => exact ⟨0, Nat.zero_le _, rfl, rfl, Ext.refl _⟩
    case round =>
      obtain ⟨k, hk, rfl, hv, hb⟩ := hrel
      by_cases hlt : k < l.length
      · have hlt' : k < m.length := by have := HL.out; omega
        obtain ⟨g, o, rfl, hc⟩ := (h.ext hb).at (by omega)
        obtain ⟨g', o', rfl, hc'⟩ := (h'.ext hb).at (by omega)
        obtain ⟨A', ca, ⟨c0, c1, c2, c3, c4⟩, hp⟩ := hc k hlt
        obtain ⟨B', cb, ⟨d0, d1, d2, d3, d4⟩, hp'⟩ := hc' k hlt'
        have e0 := Ext.alloc wr (.cells (verC A' ca l[k]) 71)
        have d0' := e0.cell d0
        have d1' := e0.cell d1
        have d2' := e0.cell d2
        have d3' := e0.cell d3
        have d4' := e0.cell d4
        rw [Sp.beq_drop l m k hlt hlt'] at hv
        have HV := Lib.hid hv
        have C := Lib.hid fun W (e : Ext wr W) => samever_calls l[k] m[k] A' B' ca cb W (hp.ext e) (hp'.ext e)
        clear hv hc hc' hp hp' e0 d0 d1 d2 d3 d4
        go_wp2_with (go_at_call 145; refine (C.out _ ((Ext.alloc _ _).trans (Ext.alloc _ _))).mono ?_; rintro e w1 ⟨rfl, hb1⟩; have B1 := Lib.hid (hb.trans (((Ext.alloc _ _).trans (Ext.alloc _ _)).trans hb1)); clear hb1)
        · go_ret
          refine ⟨?_, B1.out⟩
          have := HV.out
          simp_all
        · go_roundw
          case rel =>
            refine ⟨k + 1, by omega, by go_num, ?_, B1.out⟩
            have := HV.out
            simp_all
          case measure => simp [intOf]; omega
      · obtain rfl : k = l.length := by omega
        have HV := Lib.hid hv
        clear hv
        go_wp2
        go_ret
        exact ⟨by rw [HV.out, List.drop_length, HL.out, List.drop_length]; rfl, hb⟩
  · have b0 : ((l.length : Int) == (m.length : Int)) = false := by rw [beq_eq_false_iff_ne]; omega
    have b1 : ((l.length : Int) != (m.length : Int)) = true := by rw [bne_iff_ne]; omega
    have F := Lib.hid (show decide (l = m) = false by rw [decide_eq_false_iff_not]; rintro rfl; exact hlm rfl)
    clear hlm
    go_enter Tryz.func144, Tryz.ntmps144
    go_wp2
    go_ret
    exact ⟨by rw [F.out]; rfl, Ext.refl _⟩
set_option maxRecDepth 100000 in
set_option maxHeartbeats 2000000 in
theorem same_calls (l m : List Sp.Ver) (A B : Option Addr) (cap cap' : Nat) (w : World) (h : Vers w A l) (h' : Vers w B m) (hl : l.length ≤ 140737488351232) :
    Calls Tryz.prog 77 #[.slice A l.length cap, .slice B m.length cap'] w fun e w' => e = .returned (.bool (decide (l = m))) ∧ Ext w w' := by
  go_enter Tryz.func77, Tryz.ntmps77
  go_wp2_with (go_at_call 144; refine (verequal_calls l m A B cap cap' _ h h' hl).mono ?_; rintro e w1 ⟨rfl, hb1⟩)
  go_ret
  exact ⟨rfl, hb1⟩
end Go.Proofs.YtmlfnidckfeebaaGreatDoor
namespace Go.Proofs.YtmlfnidckfeebaaGreatDoor
open Go.RowKit
theorem flat_one (s : ByteArray) (hs : s.size ≤ 1) (n : Nat) (h : n ≤ 100000000000000) : n + (([s] : List ByteArray).flatMap (fun s => s.data.toList)).length ≤ 140737488355328 := by
  have : s.data.toList.length = s.size := by simp
  rw [List.flatMap_cons, List.flatMap_nil, List.append_nil]
  omega
theorem Ext.from' {w0 w w' : World} (e : Ext w0 w) (k : Below w0.heap.size w w') : Ext w0 w' := Below.trans e k
structure WTo (B g : Nat) (x : Sp.W) (w w' : World) : Prop where
  wr : IsWr B g x w'
  below : Below B w w'
  kept : Kept w w'
  size : w.heap.size ≤ w'.heap.size
theorem WTo.ext {g : Nat} {x : Sp.W} {w0 w w' : World} (h : WTo w0.heap.size g x w w') (e : Ext w0 w) : Ext w0 w' := h.below.from e
set_option maxRecDepth 100000 in
set_option maxHeartbeats 2000000 in
theorem wflag_calls (B g : Nat) (x : Sp.W) (b : Bool) (w : World) (h : IsWr B g x w) (hlen : x.1.length ≤ 100000000000000) (hBw : B ≤ w.heap.size) :
    Calls Tryz.prog 281 #[.pointer (some ⟨g, 0, none⟩), .bool b] w fun e w' => e = .returned (.tuple #[]) ∧ WTo B g (Sp.wflag b x) w w' := by
  have PU := Lib.hid fun (s : ByteArray) (hs : s.size ≤ 1) => wput_calls B g w.heap.size x true [s] (w.alloc (.cells #[.string s] 9)) (h.below (Ext.alloc _ _)) (box_at _ _ _) (flat_one s hs _ (by omega)) (by simp; omega) (by simp)
  have HB := Lib.hid hBw
  clear h hBw
  cases b with
  | true =>
    go_enter Tryz.func281, Tryz.ntmps281
    go_wp2_with (go_at_call 187; refine (PU.out _ (by decide)).mono ?_; rintro e w2 ⟨rfl, hw2, hb2, hk2, hs2⟩)
    go_end0
    have e1 := (Below.refl _ w).alloc HB.out (.cells #[.string ⟨#[1]⟩] 9)
    exact ⟨rfl, by simpa [Sp.wflag] using hw2, e1.trans hb2, (Kept.below (Ext.alloc _ _)).trans hk2, by rw [World.size_alloc] at hs2; omega⟩
  | false =>
    go_enter Tryz.func281, Tryz.ntmps281
    go_wp2_with (go_at_call 187; refine (PU.out _ (by decide)).mono ?_; rintro e w2 ⟨rfl, hw2, hb2, hk2, hs2⟩)
    go_end0
    have e1 := (Below.refl _ w).alloc HB.out (.cells #[.string ⟨#[0]⟩] 9)
    exact ⟨rfl, by simpa [Sp.wflag] using hw2, e1.trans hb2, (Kept.below (Ext.alloc _ _)).trans hk2, by rw [World.size_alloc] at hs2; omega⟩
set_option maxRecDepth 100000 in
set_option maxHeartbeats 2000000 in
theorem putdot_calls (B g : Nat) (x : Sp.W) (d : Sp.Dot) (w : World) (h : IsWr B g x w) (hlen : x.1.length ≤ 10000000000000) (hBw : B ≤ w.heap.size) :
    Calls Tryz.prog 190 #[.pointer (some ⟨g, 0, none⟩), dotV d] w fun e w' => e = .returned (.tuple #[]) ∧ WTo B g (Sp.wdot d x) w w' := by
  have hl := Sp.wnum_len d.1 x
  have N1 := Lib.hid (wnum_calls B g x d.1 (w.alloc (.cells #[.int .i64 d.1, .int .i64 d.2] 68)) (h.below (Ext.alloc _ _)) (by omega) (by simp; omega))
  have N2 := Lib.hid fun W (hw : IsWr B g (Sp.wnum d.1 x) W) (hb : B ≤ W.heap.size) => wnum_calls B g (Sp.wnum d.1 x) d.2 W hw (by omega) hb
  have HB := Lib.hid hBw
  have BX := Lib.hid (box_at w #[.int .i64 d.1, .int .i64 d.2] 68)
  clear h hBw hl
  go_enter Tryz.func190, Tryz.ntmps190
  go_wp2_with fail
  refine N1.out.mono ?_
  rintro e w1 ⟨rfl, hw1, hb1, hk1, hs1⟩
  have z1 := hk1 _ _ _ BX.out (by decide) (by decide)
  have c1 := (z1.cell 1).trans rfl
  rw [World.size_alloc] at hs1
  have e1 := ((Below.refl B w).alloc HB.out (.cells #[.int .i64 d.1, .int .i64 d.2] 68)).trans hb1
  have k1 := (Kept.below (Ext.alloc w (.cells #[.int .i64 d.1, .int .i64 d.2] 68))).trans hk1
  have C2 := Lib.hid (N2.out w1 hw1 (by have := HB.out; omega))
  have E1 := Lib.hid e1
  have K1 := Lib.hid k1
  clear hw1 hb1 hk1 z1 e1 k1
  go_wp2_with fail
  refine C2.out.mono ?_
  rintro e w2 ⟨rfl, hw2, hb2, hk2, hs2⟩
  go_wp2_with fail
  go_end0
  exact ⟨rfl, hw2, E1.out.trans hb2, K1.out.trans hk2, by omega⟩
end Go.Proofs.YtmlfnidckfeebaaGreatDoor
namespace Go.Proofs.YtmlfnidckfeebaaGreatDoor
open Go.RowKit Go.Shelf
namespace Sp
end Sp
structure RTo (g : Nat) (x : Sp.W) (w w' : World) : Prop where
  wr : isRW w' g x
  only : Only g w w'
theorem RTo.ext {g : Nat} {x : Sp.W} {w0 w w' : World} (h : RTo g x w w') (hg : w0.heap.size ≤ g) (e : Ext w0 w) : Ext w0 w' := e.from' (h.only.below hg e.size)
end Go.Proofs.YtmlfnidckfeebaaGreatDoor
namespace Go.Proofs.YtmlfnidckfeebaaGreatDoor
open Go.RowKit
theorem turned_pure (x : UInt32) (n : Nat) : ((x <<< UInt32.ofNat (32 - n)) ||| (x >>> UInt32.ofNat n)) = Sp.rotr x n := by
  unfold Sp.rotr; rw [UInt32.or_comm]
set_option maxRecDepth 100000 in
set_option maxHeartbeats 2000000 in
theorem rotl_calls (x : UInt32) (n : Nat) (w : World) (hn : n ∈ [2, 6, 7, 11, 13, 17, 18, 19, 22, 25]) : Calls Tryz.prog 326 #[wordV x, .int .i64 (-(n : Int))] w fun e w' => e = .returned (wordV (Sp.rotr x n)) ∧ w = w' := by
  have hx := w_lt x
  simp only [List.mem_cons, List.not_mem_nil, or_false] at hn
  rcases hn with rfl | rfl | rfl | rfl | rfl | rfl | rfl | rfl | rfl | rfl
  · have m0 : bits .and .u64 (IntKind.u64.wrap (-2)) 31 = 30 := by decide
    have s1 : IntKind.u32.wrap (wd x * 1073741824) = wd (x <<< UInt32.ofNat (32 - 2)) := w_shl x 30 (by decide)
    have s2 : wd x / 4 = wd (x >>> UInt32.ofNat 2) := w_shr x 2 (by decide)
    have s3 : bits .or .u32 (wd (x <<< UInt32.ofNat (32 - 2))) (wd (x >>> UInt32.ofNat 2)) = wd (Sp.rotr x 2) := by rw [w_or, turned_pure]
    obtain ⟨a, ha⟩ : ∃ a, a = x <<< UInt32.ofNat (32 - 2) := ⟨_, rfl⟩
    obtain ⟨b, hb⟩ : ∃ b, b = x >>> UInt32.ofNat 2 := ⟨_, rfl⟩
    obtain ⟨c, hc⟩ : ∃ c, c = Sp.rotr x 2 := ⟨_, rfl⟩
    rw [← ha] at s1 s3
    rw [← hb] at s2 s3
    rw [← hc] at s3 ⊢
    clear ha hb hc
    go_enter Tryz.func326, Tryz.ntmps326
    go_wp2
    go_ret
    exact ⟨rfl, rfl⟩
  · have m0 : bits .and .u64 (IntKind.u64.wrap (-6)) 31 = 26 := by decide
    have s1 : IntKind.u32.wrap (wd x * 67108864) = wd (x <<< UInt32.ofNat (32 - 6)) := w_shl x 26 (by decide)
    have s2 : wd x / 64 = wd (x >>> UInt32.ofNat 6) := w_shr x 6 (by decide)
    have s3 : bits .or .u32 (wd (x <<< UInt32.ofNat (32 - 6))) (wd (x >>> UInt32.ofNat 6)) = wd (Sp.rotr x 6) := by rw [w_or, turned_pure]
    obtain ⟨a, ha⟩ : ∃ a, a = x <<< UInt32.ofNat (32 - 6) := ⟨_, rfl⟩
    obtain ⟨b, hb⟩ : ∃ b, b = x >>> UInt32.ofNat 6 := ⟨_, rfl⟩
    obtain ⟨c, hc⟩ : ∃ c, c = Sp.rotr x 6 := ⟨_, rfl⟩
    rw [← ha] at s1 s3
    rw [← hb] at s2 s3
    rw [← hc] at s3 ⊢
    clear ha hb hc
    go_enter Tryz.func326, Tryz.ntmps326
    go_wp2
    go_ret
    exact ⟨rfl, rfl⟩
  · have m0 : bits .and .u64 (IntKind.u64.wrap (-7)) 31 = 25 := by decide
    have s1 : IntKind.u32.wrap (wd x * 33554432) = wd (x <<< UInt32.ofNat (32 - 7)) := w_shl x 25 (by decide)
    have s2 : wd x / 128 = wd (x >>> UInt32.ofNat 7) := w_shr x 7 (by decide)
    have s3 : bits .or .u32 (wd (x <<< UInt32.ofNat (32 - 7))) (wd (x >>> UInt32.ofNat 7)) = wd (Sp.rotr x 7) := by rw [w_or, turned_pure]
    obtain ⟨a, ha⟩ : ∃ a, a = x <<< UInt32.ofNat (32 - 7) := ⟨_, rfl⟩
    obtain ⟨b, hb⟩ : ∃ b, b = x >>> UInt32.ofNat 7 := ⟨_, rfl⟩
    obtain ⟨c, hc⟩ : ∃ c, c = Sp.rotr x 7 := ⟨_, rfl⟩
    rw [← ha] at s1 s3
    rw [← hb] at s2 s3
    rw [← hc] at s3 ⊢
    clear ha hb hc
    go_enter Tryz.func326, Tryz.ntmps326
    go_wp2
    go_ret
    exact ⟨rfl, rfl⟩
  · have m0 : bits .and .u64 (IntKind.u64.wrap (-11)) 31 = 21 := by decide
    have s1 : IntKind.u32.wrap (wd x * 2097152) = wd (x <<< UInt32.ofNat (32 - 11)) := w_shl x 21 (by decide)
    have s2 : wd x / 2048 = wd (x >>> UInt32.ofNat 11) := w_shr x 11 (by decide)
    have s3 : bits .or .u32 (wd (x <<< UInt32.ofNat (32 - 11))) (wd (x >>> UInt32.ofNat 11)) = wd (Sp.rotr x 11) := by rw [w_or, turned_pure]
    obtain ⟨a, ha⟩ : ∃ a, a = x <<< UInt32.ofNat (32 - 11) := ⟨_, rfl⟩
    obtain ⟨b, hb⟩ : ∃ b, b = x >>> UInt32.ofNat 11 := ⟨_, rfl⟩
    obtain ⟨c, hc⟩ : ∃ c, c = Sp.rotr x 11 := ⟨_, rfl⟩
    rw [← ha] at s1 s3
    rw [← hb] at s2 s3
    rw [← hc] at s3 ⊢
    clear ha hb hc
    go_enter Tryz.func326, Tryz.ntmps326
    go_wp2
    go_ret
    exact ⟨rfl, rfl⟩
  · have m0 : bits .and .u64 (IntKind.u64.wrap (-13)) 31 = 19 := by decide
    have s1 : IntKind.u32.wrap (wd x * 524288) = wd (x <<< UInt32.ofNat (32 - 13)) := w_shl x 19 (by decide)
    have s2 : wd x / 8192 = wd (x >>> UInt32.ofNat 13) := w_shr x 13 (by decide)
    have s3 : bits .or .u32 (wd (x <<< UInt32.ofNat (32 - 13))) (wd (x >>> UInt32.ofNat 13)) = wd (Sp.rotr x 13) := by rw [w_or, turned_pure]
    obtain ⟨a, ha⟩ : ∃ a, a = x <<< UInt32.ofNat (32 - 13) := ⟨_, rfl⟩
    obtain ⟨b, hb⟩ : ∃ b, b = x >>> UInt32.ofNat 13 := ⟨_, rfl⟩
    obtain ⟨c, hc⟩ : ∃ c, c = Sp.rotr x 13 := ⟨_, rfl⟩
    rw [← ha] at s1 s3
    rw [← hb] at s2 s3
    rw [← hc] at s3 ⊢
    clear ha hb hc
    go_enter Tryz.func326, Tryz.ntmps326
    go_wp2
    go_ret
    exact ⟨rfl, rfl⟩
  · have m0 : bits .and .u64 (IntKind.u64.wrap (-17)) 31 = 15 := by decide
    have s1 : IntKind.u32.wrap (wd x * 32768) = wd (x <<< UInt32.ofNat (32 - 17)) := w_shl x 15 (by decide)
    have s2 : wd x / 131072 = wd (x >>> UInt32.ofNat 17) := w_shr x 17 (by decide)
    have s3 : bits .or .u32 (wd (x <<< UInt32.ofNat (32 - 17))) (wd (x >>> UInt32.ofNat 17)) = wd (Sp.rotr x 17) := by rw [w_or, turned_pure]
    obtain ⟨a, ha⟩ : ∃ a, a = x <<< UInt32.ofNat (32 - 17) := ⟨_, rfl⟩
    obtain ⟨b, hb⟩ : ∃ b, b = x >>> UInt32.ofNat 17 := ⟨_, rfl⟩
    obtain ⟨c, hc⟩ : ∃ c, c = Sp.rotr x 17 := ⟨_, rfl⟩
    rw [← ha] at s1 s3
    rw [← hb] at s2 s3
    rw [← hc] at s3 ⊢
    clear ha hb hc
    go_enter Tryz.func326, Tryz.ntmps326
    go_wp2
    go_ret
    exact ⟨rfl, rfl⟩
  · have m0 : bits .and .u64 (IntKind.u64.wrap (-18)) 31 = 14 := by decide
    have s1 : IntKind.u32.wrap (wd x * 16384) = wd (x <<< UInt32.ofNat (32 - 18)) := w_shl x 14 (by decide)
    have s2 : wd x / 262144 = wd (x >>> UInt32.ofNat 18) := w_shr x 18 (by decide)
    have s3 : bits .or .u32 (wd (x <<< UInt32.ofNat (32 - 18))) (wd (x >>> UInt32.ofNat 18)) = wd (Sp.rotr x 18) := by rw [w_or, turned_pure]
    obtain ⟨a, ha⟩ : ∃ a, a = x <<< UInt32.ofNat (32 - 18) := ⟨_, rfl⟩
    obtain ⟨b, hb⟩ : ∃ b, b = x >>> UInt32.ofNat 18 := ⟨_, rfl⟩
    obtain ⟨c, hc⟩ : ∃ c, c = Sp.rotr x 18 := ⟨_, rfl⟩
    rw [← ha] at s1 s3
    rw [← hb] at s2 s3
    rw [← hc] at s3 ⊢
    clear ha hb hc
    go_enter Tryz.func326, Tryz.ntmps326
    go_wp2
    go_ret
    exact ⟨rfl, rfl⟩
  · have m0 : bits .and .u64 (IntKind.u64.wrap (-19)) 31 = 13 := by decide
    have s1 : IntKind.u32.wrap (wd x * 8192) = wd (x <<< UInt32.ofNat (32 - 19)) := w_shl x 13 (by decide)
    have s2 : wd x / 524288 = wd (x >>> UInt32.ofNat 19) := w_shr x 19 (by decide)
    have s3 : bits .or .u32 (wd (x <<< UInt32.ofNat (32 - 19))) (wd (x >>> UInt32.ofNat 19)) = wd (Sp.rotr x 19) := by rw [w_or, turned_pure]
    obtain ⟨a, ha⟩ : ∃ a, a = x <<< UInt32.ofNat (32 - 19) := ⟨_, rfl⟩
    obtain ⟨b, hb⟩ : ∃ b, b = x >>> UInt32.ofNat 19 := ⟨_, rfl⟩
    obtain ⟨c, hc⟩ : ∃ c, c = Sp.rotr x 19 := ⟨_, rfl⟩
    rw [← ha] at s1 s3
    rw [← hb] at s2 s3
    rw [← hc] at s3 ⊢
    clear ha hb hc
    go_enter Tryz.func326, Tryz.ntmps326
    go_wp2
    go_ret
    exact ⟨rfl, rfl⟩
  · have m0 : bits .and .u64 (IntKind.u64.wrap (-22)) 31 = 10 := by decide
    have s1 : IntKind.u32.wrap (wd x * 1024) = wd (x <<< UInt32.ofNat (32 - 22)) := w_shl x 10 (by decide)
    have s2 : wd x / 4194304 = wd (x >>> UInt32.ofNat 22) := w_shr x 22 (by decide)
    have s3 : bits .or .u32 (wd (x <<< UInt32.ofNat (32 - 22))) (wd (x >>> UInt32.ofNat 22)) = wd (Sp.rotr x 22) := by rw [w_or, turned_pure]
    obtain ⟨a, ha⟩ : ∃ a, a = x <<< UInt32.ofNat (32 - 22) := ⟨_, rfl⟩
    obtain ⟨b, hb⟩ : ∃ b, b = x >>> UInt32.ofNat 22 := ⟨_, rfl⟩
    obtain ⟨c, hc⟩ : ∃ c, c = Sp.rotr x 22 := ⟨_, rfl⟩
    rw [← ha] at s1 s3
    rw [← hb] at s2 s3
    rw [← hc] at s3 ⊢
    clear ha hb hc
    go_enter Tryz.func326, Tryz.ntmps326
    go_wp2
    go_ret
    exact ⟨rfl, rfl⟩
  · have m0 : bits .and .u64 (IntKind.u64.wrap (-25)) 31 = 7 := by decide
    have s1 : IntKind.u32.wrap (wd x * 128) = wd (x <<< UInt32.ofNat (32 - 25)) := w_shl x 7 (by decide)
    have s2 : wd x / 33554432 = wd (x >>> UInt32.ofNat 25) := w_shr x 25 (by decide)
    have s3 : bits .or .u32 (wd (x <<< UInt32.ofNat (32 - 25))) (wd (x >>> UInt32.ofNat 25)) = wd (Sp.rotr x 25) := by rw [w_or, turned_pure]
    obtain ⟨a, ha⟩ : ∃ a, a = x <<< UInt32.ofNat (32 - 25) := ⟨_, rfl⟩
    obtain ⟨b, hb⟩ : ∃ b, b = x >>> UInt32.ofNat 25 := ⟨_, rfl⟩
    obtain ⟨c, hc⟩ : ∃ c, c = Sp.rotr x 25 := ⟨_, rfl⟩
    rw [← ha] at s1 s3
    rw [← hb] at s2 s3
    rw [← hc] at s3 ⊢
    clear ha hb hc
    go_enter Tryz.func326, Tryz.ntmps326
    go_wp2
    go_ret
    exact ⟨rfl, rfl⟩
set_option maxRecDepth 100000 in
set_option maxHeartbeats 2000000 in
theorem turned_calls (x : UInt32) (n : Nat) (w : World) (hn : n ∈ [2, 6, 7, 11, 13, 17, 18, 19, 22, 25]) : Calls Tryz.prog 323 #[wordV x, .int .i64 (n : Int)] w fun e w' => e = .returned (wordV (Sp.rotr x n)) ∧ w = w' := by
  have C := Lib.hid (rotl_calls x n w hn)
  have hn' : 0 ≤ (n : Int) ∧ (n : Int) ≤ 25 := by
    simp only [List.mem_cons, List.not_mem_nil, or_false] at hn
    omega
  have n1 : IntKind.i64.wrap (-(n : Int)) = -(n : Int) := IntWalk.i64_in _ (by omega)
  clear hn
  go_enter Tryz.func323, Tryz.ntmps323
  go_wp2_with (go_at_call 326; refine C.out.mono ?_; rintro e w1 ⟨rfl, rfl⟩)
  go_ret
  exact ⟨rfl, rfl⟩
end Go.Proofs.YtmlfnidckfeebaaGreatDoor
namespace Go.Proofs.YtmlfnidckfeebaaGreatDoor
open Go.RowKit Go.Shelf
def digC (d : Sp.Bs) : Array Value := (d.map byteV).toArray
abbrev digV (d : Sp.Bs) : Value := .agg (digC d)
theorem digC_size (d : Sp.Bs) : (digC d).size = d.length := by simp [digC]
theorem digC_get (d : Sp.Bs) (i : Nat) (h : i < d.length) : (digC d)[i]? = some (byteV d[i]) := by simp [digC, h]
set_option maxRecDepth 100000 in
set_option maxHeartbeats 2000000 in
theorem wdigest_calls (B g : Nat) (x : Sp.W) (d : Sp.Bs) (w : World) (hd : d.length = 32) (h : IsWr B g x w) (hlen : x.1.length ≤ 100000000000000) (hBw : B ≤ w.heap.size) :
    Calls Tryz.prog 289 #[.pointer (some ⟨g, 0, none⟩), digV d] w fun e w' => e = .returned (.tuple #[]) ∧ WTo B g (Sp.wdigest d x) w w' := by
  obtain ⟨W0, hW0⟩ : ∃ W0, W0 = w.alloc (.cells (digC d) 36) := ⟨_, rfl⟩
  have SZ := Lib.hid (show W0.heap.size = w.heap.size + 1 by rw [hW0]; simp)
  have E0 := Lib.hid (show Ext w W0 by rw [hW0]; exact Ext.alloc _ _)
  have CC := Lib.hid (show ∀ i, (h : i < d.length) → W0.cell? ⟨w.heap.size, 0 + i, none⟩ = some (byteV d[i]) from fun i hi => by rw [hW0, Nat.zero_add, (box_at w (digC d) 36).cell i, digC_get d i hi])
  have PU := Lib.hid (wput_calls B g (w.heap.size + 1) x true [strOf d] (W0.alloc (.cells #[.string (strOf d)] 9)) (h.below (E0.out.trans (Ext.alloc _ _))) (by rw [← SZ.out]; exact box_at _ _ _) (by simp; omega) (by have := E0.out.size; simp; omega) (by simp))
  have HW := Lib.hid hW0.symm
  have HB := Lib.hid hBw
  have F := Lib.hid (show Sp.wdigest d x = Sp.wput true (([strOf d] : List ByteArray).flatMap (fun s => s.data.toList)) x by rw [List.flatMap_cons, List.flatMap_nil, List.append_nil, strOf_data]; rfl)
  obtain ⟨x2, hx2⟩ : ∃ x2, x2 = Sp.wput true (([strOf d] : List ByteArray).flatMap (fun s => s.data.toList)) x := ⟨_, rfl⟩
  rw [← hx2] at F PU
  have hds := digC_size d
  clear h hBw hW0 hx2
  go_enter Tryz.func289, Tryz.ntmps289
  go_wp2_with (refine conv_new rfl rfl Tryz.underlying172 Tryz.underlying5 Tryz.underlying9 w.heap.size 0 32 32 d rfl hd.symm ?cc ?_; (case cc => rw [HW.out]; exact CC.out))
  rw [HW.out]
  refine PU.out.mono ?_
  rintro e w1 ⟨rfl, hw1, hb1, hk1, hs1⟩
  go_wp2
  go_end0
  have e1 := E0.out.trans (Ext.alloc W0 (.cells #[.string (strOf d)] 9))
  exact ⟨rfl, by rw [F.out]; exact hw1, (Below.mono e1 HB.out).trans hb1, (Kept.below e1).trans hk1, Nat.le_trans e1.size hs1⟩
end Go.Proofs.YtmlfnidckfeebaaGreatDoor
namespace Go.Proofs.YtmlfnidckfeebaaGreatDoor
open Go.RowKit
def putsA (cs : Array Value) : Nat → List Value → Array Value
  | _, [] => cs
  | o, v :: r => putsA (cs.setIfInBounds o v) (o + 1) r
theorem isBlk.puts : ∀ (vs : List Value) (o : Nat) {w : World} {g : Nat} {t : TypeId} {cs : Array Value}, isBlk w g t cs → isBlk (w.setCells g o vs) g t (putsA cs o vs)
  | [], _, _, _, _, _, h => h
  | v :: r, o, _, _, _, _, h => isBlk.puts r (o + 1) (h.put o v rfl)
theorem Only.sets (g : Nat) : ∀ (vs : List Value) (o : Nat) (w : World), Only g w (w.setCells g o vs)
  | [], _, w => Only.refl g w
  | v :: r, o, w => (Only.set g o v w).trans (Only.sets g r (o + 1) _)
theorem sets_size (g : Nat) : ∀ (vs : List Value) (o : Nat) (w : World), (w.setCells g o vs).heap.size = w.heap.size
  | [], _, _ => rfl
  | v :: r, o, w => by rw [World.setCells, sets_size g r (o + 1)]; simp
theorem isBlk.rangeAt {w : World} {g : Nat} {t : TypeId} {cs : Array Value} (h : isBlk w g t cs) (o : Nat) (vs : List Value) (hv : ∀ j v, vs[j]? = some v → cs[o + j]? = some v) : w.rangeAt g o vs := fun j v hj => by rw [h.cell (o + j)]; exact hv j v hj
section
variable {P : Program} {ops : Array Oper} {rest : List Oper} {o : Oper} {a : Act} {Q : Exit → Act → World → Prop} {w : World}
theorem at_load {t : TypeId} {x : Operand} (_ho : o.op = .load t x) (h : wpList P ops Q (o :: rest) a w) : wpList P ops Q (o :: rest) a w := h
theorem at_store {t : TypeId} {x y : Operand} (_ho : o.op = .store t x y) (h : wpList P ops Q (o :: rest) a w) : wpList P ops Q (o :: rest) a w := h
theorem store_blk (hgd : o.guard = none) (ty : TypeId) (x y : Operand) (ho : o.op = .store ty x y) (b off : Nat) (cells : Array Value) (hx : a.eval x = .pointer (some ⟨b, off, none⟩)) (hy : a.eval y = .agg cells)
    {t : TypeId} {cs cs' : Array Value} (hb : isBlk w b t cs) (hlt : off + cells.size ≤ cs.size) (hi : (P.info? ty).map (·.size) = some cells.size) (h1 : cells.all (·.oneCell') = true) (hcs : putsA cs off cells.toList = cs')
    (h : ∀ w', isBlk w' b t cs' → Only b w w' → w'.heap.size = w.heap.size → wpList P ops Q rest (a.put o.dst undef) w') : wpList P ops Q (o :: rest) a w := by
  refine wpList_store_mid hgd ty x y ho b off cells hx hy ?_ hi h1 ?_
  · intro j hj
    rw [hb.cell (off + j), hb.frozen (off + j)]
    exact ⟨by rw [Array.getElem?_eq_getElem (by omega)]; rfl, rfl⟩
  · exact h _ (by rw [← hcs]; exact hb.puts _ _) (Only.sets _ _ _ _) (sets_size _ _ _ _)
end
theorem det_load_mid {P : Program} {ops : Array Oper} {S : World → Prop} {a : Act} {o : Oper} {K : Act → Prop} (hw : Region.wanted o (yielded ops a.tmps) = true) (ty : TypeId) (x : Operand) (ho : o.op = .load ty x) (b off : Nat) (hx : a.eval x = .pointer (some ⟨b, off, none⟩)) (vs : List Value) (d : TypeDesc)
    (hc : ∀ W, S W → W.rangeAt b off vs) (hu : P.underlying ty = some d) (hd : d.isRow = true) (hi : (P.info? ty).map (·.size) = some vs.length) (h : K (a.put o.dst (.agg vs.toArray))) : ∃ v, YieldsS P ops S o v a ∧ K (a.put o.dst v) := by
  refine ⟨_, .inl ⟨hw, fun W hS => ?_⟩, h⟩
  unfold execOp
  simp only [ho, hx, Sem.run_bind, run_loadAt_mid W b off ty vs d (hc W hS) hu hd hi, Result.andThen_ok, Sem.run_pure]
  exact ⟨rfl, hS⟩
end Go.Proofs.YtmlfnidckfeebaaGreatDoor
namespace Go.Proofs.YtmlfnidckfeebaaGreatDoor
open Go.RowKit
attribute [local go_sem] yUpon w_add w_xor w_and w_or w_wrap w_shl8 w_shl16 w_shl24 w_shr3 w_shr10
abbrev zero64 : Array Value := wordsC (List.replicate 64 0)
theorem byte_word (b : Sp.Bs) (i : Nat) (h : i < b.length) : ∃ x : UInt32, x = (b.getD i 0).toUInt32 ∧ x.toNat < 256 ∧ (digC b)[i]? = some (.int .u8 (wd x)) := by
  refine ⟨_, rfl, ?_, ?_⟩
  · rw [UInt8.toNat_toUInt32]; exact (b.getD i 0).toNat_lt
  · unfold wd
    rw [digC_get b i h, UInt8.toNat_toUInt32]
    simp [byteV, List.getD_eq_getElem?_getD, h]
theorem first_succ (b : Sp.Bs) (k : Nat) : Sp.first b (k + 1) = Sp.first b k ++ [Sp.be b k] := by
  unfold Sp.first; rw [List.range_succ, List.map_append]; rfl
theorem set_mid {α} (l : List α) (x y : α) (m : List α) : (l ++ y :: m).set l.length x = l ++ x :: m := by
  rw [List.set_append_right _ _ (Nat.le_refl _)]; simp
theorem fill_step (l : List UInt32) (x : UInt32) (n : Nat) (h : l.length < n) : (l ++ List.replicate (n - l.length) 0).set l.length x = (l ++ [x]) ++ List.replicate (n - (l ++ [x]).length) 0 := by
  obtain ⟨m, hm⟩ : ∃ m, n - l.length = m + 1 := ⟨n - l.length - 1, by omega⟩
  rw [hm, List.replicate_succ, set_mid, List.append_assoc, List.length_append]
  congr 2
  rw [show n - (l.length + [x].length) = m by simp; omega]
  rfl
set_option maxRecDepth 100000 in
set_option maxHeartbeats 4000000 in
theorem spread_calls (b : Sp.Bs) (w : World) (hb : b.length = 64) : Calls Tryz.prog 322 #[.agg (digC b)] w fun e w' => e = .returned (.agg (wordsC (Sp.sched b 48))) ∧ Ext w w' := by
  have hds := digC_size b
  obtain ⟨arr, ha⟩ : ∃ arr, arr = wordsC (Sp.sched b 48) := ⟨_, rfl⟩
  rw [← ha]
  have HA := Lib.hid ha
  clear ha
  have tok2 : True := trivial
  have tok3 : True := trivial
  go_enter Tryz.func322, Tryz.ntmps322
  go_wp2_with (first
    | (have _t2 := tok2; ((with_reducible refine at_alloc (t := 274) rfl ?_); refine box_new rfl (cs := zero64) (t := 274) (by first | (go_simp; done) | (go_simp; rfl)) ?_; intro g2 w2 hg2 hx2 hb2; clear tok2 _t2))
    | (have _t3 := tok3; ((with_reducible refine at_alloc (t := 274) rfl ?_); refine box_new rfl (cs := zero64) (t := 274) (by first | (go_simp; done) | (go_simp; rfl)) ?_; intro g3 w3 hg3 hx3 hb3; clear tok3 _t3)))
  have E3 := Lib.hid ((Ext.alloc w (.cells (digC b) 346)).trans (Ext.trans hb2 hb3))
  have X1 := Lib.hid ((box_at w (digC b) 346).below (Ext.trans hb2 hb3))
  have X2 := Lib.hid (hx2.below hb3)
  have N12 := Lib.hid (show w.heap.size ≠ g3 by have := (Ext.alloc w (.cells (digC b) 346)).size; have := hb2.size; simp at *; omega)
  have N23 := Lib.hid (show g2 ≠ g3 by have := hx2.lt; omega)
  have G3 := Lib.hid (show w.heap.size ≤ g3 by have := hb2.size; simp at *; omega)
  have G2 := Lib.hid (show w.heap.size ≤ g2 by simp at hg2; omega)
  have X3 := Lib.hid hx3
  clear hx2 hx3 hb2 hb3 hg2 hg3
  go_loopw [10] (fun v10 wr => ∃ k : Nat, k ≤ 16 ∧ v10 = .int .i64 k ∧ isBlk wr g3 274 (wordsC (Sp.first b k ++ List.replicate (64 - k) 0)) ∧ Only g3 w3 wr) (fun v10 _ => 16 - (intOf v10).toNat)
  case atStart => exact ⟨0, by decide, rfl, by rw [show Sp.first b 0 = [] from rfl]; exact X3.out, Only.refl _ _⟩
  case round =>
    obtain ⟨k, hk, rfl, hx, ho⟩ := hrel
    by_cases hlt : k < 16
    · obtain ⟨m, hm⟩ : ∃ m, m = 4 * k := ⟨_, rfl⟩
      obtain ⟨m1, hm1⟩ : ∃ m1, m1 = m + 1 := ⟨_, rfl⟩
      obtain ⟨m2, hm2⟩ : ∃ m2, m2 = m + 2 := ⟨_, rfl⟩
      obtain ⟨m3, hm3⟩ : ∃ m3, m3 = m + 3 := ⟨_, rfl⟩
      have e1 : 4 * (k : Int) = (m : Int) := by omega
      have q0 : IntKind.i64.wrap (m : Int) = (m : Int) := IntWalk.i64_in _ (by omega)
      have q1 : IntKind.i64.wrap ((m : Int) + 1) = (m1 : Int) := by rw [hm1]; exact IntWalk.i64_in _ (by omega)
      have q2 : IntKind.i64.wrap ((m : Int) + 2) = (m2 : Int) := by rw [hm2]; exact IntWalk.i64_in _ (by omega)
      have q3 : IntKind.i64.wrap ((m : Int) + 3) = (m3 : Int) := by rw [hm3]; exact IntWalk.i64_in _ (by omega)
      obtain ⟨x0, h0, l0, c0⟩ := byte_word b m (by omega)
      obtain ⟨x1, h1, l1, c1⟩ := byte_word b m1 (by omega)
      obtain ⟨x2, h2, l2, c2⟩ := byte_word b m2 (by omega)
      obtain ⟨x3, h3, l3, c3⟩ := byte_word b m3 (by omega)
      have hbe : Sp.be b k = x0 <<< 24 ||| x1 <<< 16 ||| x2 <<< 8 ||| x3 := by rw [h0, h1, h2, h3, hm1, hm2, hm3, hm]; rfl
      have b0 : (m : Int) < 64 := by omega
      have b1 : (m1 : Int) < 64 := by omega
      have b2 : (m2 : Int) < 64 := by omega
      have b3 : (m3 : Int) < 64 := by omega
      have Z := ho.blk X1.out N12.out
      clear h0 h1 h2 h3 hm1 hm2 hm3 hm
      go_wp2_with fail
      refine wp_region_det_tail (fun W => Ext wr W) 30 (by kernel_rfl) (by kernel_rfl) (Ext.refl _).drew ?_
      simp only [List.take_succ_cons, List.take_zero, List.drop_succ_cons, List.drop_zero]
      repeat (first
        | (refine det_step (fun K hK => ?_)
           apply Exists.intro
           refine ⟨Or.inl ⟨rfl, fun W hS => ?_⟩, ?_⟩
           · have hz : Ext wr W := hS; have z := Z.below hz; have f0 := (z.cell m).trans c0; have f1 := (z.cell m1).trans c1; have f2 := (z.cell m2).trans c2; have f3 := (z.cell m3).trans c3
             go_simp
             first
             | exact rfl
             | exact ⟨rfl, hS⟩
             | (fail)
           go_simp
           refine hK _ ?_
           clear hK K)
        | (refine det_step (fun K hK => ?_); refine det_no' rfl ?_; go_simp; refine hK _ ?_; clear hK K))
      refine det_nil ?_
      intro W hS
      replace hS : Ext wr W := hS
      have ln := Sp.first_len b k
      have hxW := hx.below hS
      have g0 := (hxW.cell k).trans (wordsC_get _ k (by rw [List.length_append, List.length_replicate, ln]; omega))
      have g1 := hxW.frozen k
      have HX := Lib.hid hxW
      have HO := Lib.hid (ho.trans (Only.of_below g3 hS))
      clear hx hxW ho Z ln
      go_wp2_with fail
      go_roundw
      case rel =>
        refine ⟨k + 1, by omega, by go_num, ?_, HO.out.trans (Only.set _ _ _ _)⟩
        have := HX.out.put k (wordV (x0 <<< 24 ||| x1 <<< 16 ||| x2 <<< 8 ||| x3)) rfl
        rw [wordsC_set] at this
        have fs := fill_step (Sp.first b k) (Sp.be b k) 64 (by rw [Sp.first_len]; omega)
        rw [Sp.first_len, ← first_succ, Sp.first_len, hbe] at fs
        rw [fs] at this
        exact this
      case measure => simp [intOf]; omega
    · obtain rfl : k = 16 := by omega
      rw [show ((16 : Nat) : Int) = 16 from rfl]
      go_wp2_with fail
      go_loopw [5] (fun v5 wr => ∃ n : Nat, n ≤ 48 ∧ v5 = .int .i64 ((16 + n : Nat) : Int) ∧ isBlk wr g3 274 (wordsC (Sp.sched b n ++ List.replicate (48 - n) 0)) ∧ Only g3 w3 wr) (fun v5 _ => 64 - (intOf v5).toNat)
      case atStart => exact ⟨0, by decide, rfl, hx, ho⟩
      case round =>
        obtain ⟨n, hn, rfl, hx, ho⟩ := hrel
        by_cases hlt : n < 48
        · have ln := Sp.sched_len b n
          obtain ⟨i, hi⟩ : ∃ i, i = 16 + n := ⟨_, rfl⟩
          obtain ⟨j16, h16⟩ : ∃ j, j = i - 16 := ⟨_, rfl⟩
          obtain ⟨j15, h15⟩ : ∃ j, j = i - 15 := ⟨_, rfl⟩
          obtain ⟨j7, h7⟩ : ∃ j, j = i - 7 := ⟨_, rfl⟩
          obtain ⟨j2, h2⟩ : ∃ j, j = i - 2 := ⟨_, rfl⟩
          have q16 : IntKind.i64.wrap ((i : Int) - 16) = (j16 : Int) := by rw [IntWalk.i64_in _ (by omega)]; omega
          have q15 : IntKind.i64.wrap ((i : Int) - 15) = (j15 : Int) := by rw [IntWalk.i64_in _ (by omega)]; omega
          have q7 : IntKind.i64.wrap ((i : Int) - 7) = (j7 : Int) := by rw [IntWalk.i64_in _ (by omega)]; omega
          have q2 : IntKind.i64.wrap ((i : Int) - 2) = (j2 : Int) := by rw [IntWalk.i64_in _ (by omega)]; omega
          have cellAt : ∀ j, j < i → (wordsC (Sp.sched b n ++ List.replicate (48 - n) 0))[j]? = some (wordV ((Sp.sched b n).getD j 0)) := fun j hj => by
            rw [wordsC_get _ j (by rw [List.length_append, List.length_replicate, ln]; omega), List.getD_eq_getElem?_getD, List.getElem?_append_left (by rw [ln]; omega), List.getD_eq_getElem?_getD]
          have k16 := cellAt j16 (by omega)
          have k15 := cellAt j15 (by omega)
          have k7 := cellAt j7 (by omega)
          have k2 := cellAt j2 (by omega)
          have nx : Sp.next (Sp.sched b n) = (Sp.sched b n).getD j16 0 + Sp.lowS ((Sp.sched b n).getD j15 0) + (Sp.sched b n).getD j7 0 + Sp.highS ((Sp.sched b n).getD j2 0) := by
            unfold Sp.next; rw [ln, h16, h15, h7, h2, hi]
          obtain ⟨x16, y16⟩ : ∃ x, x = (Sp.sched b n).getD j16 0 := ⟨_, rfl⟩
          obtain ⟨x15, y15⟩ : ∃ x, x = (Sp.sched b n).getD j15 0 := ⟨_, rfl⟩
          obtain ⟨x7, y7⟩ : ∃ x, x = (Sp.sched b n).getD j7 0 := ⟨_, rfl⟩
          obtain ⟨x2, y2⟩ : ∃ x, x = (Sp.sched b n).getD j2 0 := ⟨_, rfl⟩
          rw [← y16] at k16 nx
          rw [← y15] at k15 nx
          rw [← y7] at k7 nx
          rw [← y2] at k2 nx
          have b0 : (i : Int) < 64 := by omega
          have b16 : (j16 : Int) < 64 := by omega
          have b15 : (j15 : Int) < 64 := by omega
          have b7 : (j7 : Int) < 64 := by omega
          have b2 : (j2 : Int) < 64 := by omega
          have HI := Lib.hid hi
          have NX := Lib.hid nx
          rw [← hi]
          clear h16 h15 h7 h2 y16 y15 y7 y2 cellAt hi nx ln
          go_wp2_with fail
          refine wp_region_det (fun W => Ext wr W) (by kernel_rfl) (by kernel_rfl) (Below.refl _ _).drew ?_
          repeat (first
            | (refine det_step (fun K hK => ?_)
               apply Exists.intro
               refine ⟨Or.inl ⟨rfl, fun W hS => ?_⟩, ?_⟩
               · replace hS : Ext wr W := hS
                 have z := hx.below hS; have f0 := (z.cell j15).trans k15; have f1 := (z.cell j2).trans k2
                 go_simp
                 first
                 | exact rfl
                 | exact ⟨rfl, hS⟩
                 | (fail)
               go_simp
               refine hK _ ?_
               clear hK K)
            | (refine det_step (fun K hK => ?_); refine det_no' rfl ?_; go_simp; refine hK _ ?_; clear hK K))
          refine det_nil ?_
          intro W9 hS
          replace hS : Ext _ W9 := hS
          go_wp2_with (go_at_call 323; refine (turned_calls _ _ _ (by decide)).mono ?_; rintro e w4 ⟨rfl, rfl⟩)
          have o1 : Ext wr W9 := hS
          refine wp_region_det_tail (fun W => Ext wr W) 14 (by kernel_rfl) (by kernel_rfl) o1.drew ?_
          simp only [List.take_succ_cons, List.take_zero, List.drop_succ_cons, List.drop_zero]
          repeat (first
            | (refine det_step (fun K hK => ?_)
               apply Exists.intro
               refine ⟨Or.inl ⟨rfl, fun W hS => ?_⟩, ?_⟩
               · have hz : Ext wr W := hS; have z := hx.below hz; have f0 := (z.cell j16).trans k16; have f1 := (z.cell j7).trans k7
                 go_simp
                 first
                 | exact rfl
                 | exact ⟨rfl, hS⟩
                 | (fail)
               go_simp
               refine hK _ ?_
               clear hK K)
            | (refine det_step (fun K hK => ?_); refine det_no' rfl ?_; go_simp; refine hK _ ?_; clear hK K))
          refine det_nil ?_
          intro W hS
          replace hS : Ext wr W := hS
          have ln := Sp.sched_len b n
          have hxW := hx.below hS
          have g0 := (hxW.cell i).trans (wordsC_get _ i (by rw [List.length_append, List.length_replicate, ln, HI.out]; omega))
          have g1 := hxW.frozen i
          have HX := Lib.hid hxW
          have HO := Lib.hid (ho.trans (Only.of_below g3 hS))
          clear hx hxW ho ln k16 k15 k7 k2 o1
          go_wp2_with fail
          go_roundw
          case rel =>
            refine ⟨n + 1, by omega, by rw [HI.out]; go_num, ?_, HO.out.trans (Only.set _ _ _ _)⟩
            have := HX.out.put i (wordV (x16 + (Sp.rotr x15 7 ^^^ Sp.rotr x15 18 ^^^ x15 >>> 3) + x7 + (Sp.rotr x2 17 ^^^ Sp.rotr x2 19 ^^^ x2 >>> 10))) rfl
            rw [wordsC_set] at this
            have fs := fill_step (Sp.sched b n) (Sp.next (Sp.sched b n)) 64 (by rw [Sp.sched_len]; omega)
            rw [show Sp.sched b n ++ [Sp.next (Sp.sched b n)] = Sp.sched b (n + 1) from rfl, Sp.sched_len, Sp.sched_len, ← HI.out, show 64 - i = 48 - n by rw [HI.out]; omega, show 64 - (16 + (n + 1)) = 48 - (n + 1) by omega, NX.out] at fs
            unfold Sp.lowS Sp.highS at fs
            rw [fs] at this
            exact this
          case measure => simp [intOf]; omega
        · obtain rfl : n = 48 := by omega
          have hx' : isBlk wr g3 274 (wordsC (Sp.sched b 48)) := by simpa using hx
          have ws := wordsC_size (Sp.sched b 48)
          have sl := Sp.sched_len b 48
          have w1 := wordsC_one (Sp.sched b 48)
          have HX := Lib.hid hx'
          have H2 := Lib.hid (ho.blk X2.out N23.out)
          have HO := Lib.hid ho
          rw [← HA.out] at HX ws w1
          clear hx hx' ho
          go_wp2_with (first
            | ((with_reducible refine at_load (t := 274) rfl ?_); refine wpList_load_row rfl _ _ rfl g3 rfl 274 arr (0, 0) _ HX.out Tryz.underlying274 rfl (by rw [ws, sl]; kernel_rfl) ?_)
            | ((with_reducible refine at_store (t := 274) rfl ?_); refine wpList_store_row rfl _ _ _ rfl g2 arr rfl rfl 274 zero64 H2.out (by rw [ws, sl]; kernel_rfl) (by rw [ws, sl]; rfl) w1 ?_))
          refine bodyPost_ret (results_cell_row rfl _ _ g2 274 arr (0, 0) _ rfl (setRow_heap _ _ _ _ _ _ H2.out) Tryz.underlying274 rfl (by rw [ws, sl]; kernel_rfl)) rfl ?_
          exact ⟨rfl, below_setRow (E3.out.from' (HO.out.below G3.out E3.out.size)) G2.out _⟩
end Go.Proofs.YtmlfnidckfeebaaGreatDoor
