/- Nodes: plain. Walks: the reference's leaves; leaves that are the same. Walks: leaves that are the same. Walks: dots and vectors as bytes. Walks: the reference's vectors and leaves as bytes. Walks: words, turned. -/
import Derived.Test.YteiblfcehlibpaaGreatDoorGF10
import Derived.Laws.Cover1
import Derived.Test.YteiblfcehlibpaaGreatDoorGF06
import Derived.Laws.Rows
namespace Go.Proofs.YteiblfcehlibpaaGreatDoor
open Go.RowKit
namespace Sp
abbrev Kid := Bs × Bs
abbrev Node := List Ver × List Kid
def le (a b : Bs) : Bool := Op.bytesLess a b || a == b
def kgo : Option Bs → List Kid → Int
  | _, [] => 0
  | p, k :: r => if name k.1 = false then 1 else if p.any (le k.1) = true then 8 else kgo (some k.1) r
def kcheck (l : List Kid) : Int := if 128 < l.length then 2 else kgo none l
def ncheck (n : Node) : Int := if leaf n.1 ≠ 0 then leaf n.1 else kcheck n.2
/-- The name ahead of a place. -/
def pv (l : List Kid) (k : Nat) : Option Bs := if k = 0 then none else (l[k - 1]?).map (·.1)
theorem kgo_step (l : List Kid) (k : Nat) (h : k < l.length) : kgo (pv l k) (l.drop k) = if name l[k].1 = false then 1 else if (pv l k).any (le l[k].1) = true then 8 else kgo (pv l (k + 1)) (l.drop (k + 1)) := by
  have e : pv l (k + 1) = some l[k].1 := by simp [pv, h]
  rw [List.drop_eq_getElem_cons h, kgo, e]
def wkid (k : Kid) (x : W) : W := wdigest k.2 (wtext k.1 x)
def wkids (l : List Kid) (x : W) : W := l.foldl (fun x k => wkid k x) x
def wnode (n : Node) : W := wkids n.2 (wnum n.2.length (wleaf n.1 ([], 0)))
def nbytes (n : Node) : W := if ncheck n ≠ 0 then ([], ncheck n) else wdone (wnode n)
def nsum (n : Node) : Bs := if (nbytes n).2 ≠ 0 then List.replicate 32 0 else sha (nbytes n).1
theorem nsum_len (n : Node) : (nsum n).length = 32 := by
  unfold nsum; split
  · simp
  · exact sha_len _
theorem wkids_snoc (l : List Kid) (k : Kid) (x : W) : wkids (l ++ [k]) x = wkid k (wkids l x) := by simp [wkids]
theorem wkid_len (k : Kid) (x : W) : (wkid k x).1.length ≤ x.1.length + k.1.length + k.2.length + 20 := by
  have h1 := wput_len true k.2 (wtext k.1 x)
  have h2 := wtext_len k.1 x
  unfold wkid wdigest
  omega
theorem wkids_len (m n : Nat) : ∀ (l : List Kid) (x : W), (∀ k ∈ l, k.1.length ≤ m ∧ k.2.length ≤ n) → (wkids l x).1.length ≤ x.1.length + l.length * (m + n + 20)
  | [], x, _ => by simp [wkids]
  | k :: r, x, h => by
    have h1 := wkids_len m n r (wkid k x) (fun j hj => h j (List.mem_cons_of_mem _ hj))
    have h2 := wkid_len k x
    have h3 := h k (List.mem_cons_self ..)
    rw [show wkids (k :: r) x = wkids r (wkid k x) from rfl, List.length_cons, Nat.succ_mul]
    omega
theorem wput_some (b : Bool) (s : Bs) (x : W) (h : x.2 = 0 → x.1 ≠ []) : (wput b s x).2 = 0 → (wput b s x).1 ≠ [] := by
  unfold wput
  split
  · rename_i h2; intro h3; exact absurd h3 h2
  · rename_i h2
    have := h (by simpa using h2)
    split
    · intro _; simp [this]
    · intro h3; cases h3
theorem wkids_some : ∀ (l : List Kid) (x : W), (x.2 = 0 → x.1 ≠ []) → (wkids l x).2 = 0 → (wkids l x).1 ≠ []
  | [], _, h => h
  | k :: r, x, h => wkids_some r (wkid k x) (wput_some _ _ _ (wput_some _ _ _ h))
theorem wnum_some (n : Int) (x : W) : (wnum n x).2 = 0 → (wnum n x).1 ≠ [] := by
  unfold wnum wput
  split
  · rename_i h2; intro h3; exact absurd h3 h2
  · split
    · rename_i hd
      have h5 := put_ne.2 (of_decide_eq_true hd)
      intro _; simp [h5]
    · intro h3; cases h3
theorem wnode_some (n : Node) : (wnode n).2 = 0 → (wnode n).1 ≠ [] := wkids_some _ _ (wnum_some _ _)
theorem ncheck_ok {n : Node} (h : ncheck n = 0) : leaf n.1 = 0 ∧ n.2.length ≤ 128 ∧ kgo none n.2 = 0 := by
  unfold ncheck at h
  split at h
  · rename_i h2; exact absurd h h2
  · rename_i h2
    unfold kcheck at h
    split at h
    · cases h
    · exact ⟨by simpa using h2, by omega, h⟩
end Sp
/-- A kid's cells. -/
def kidL (k : Sp.Kid) : List Value := .string (strOf k.1) :: k.2.map byteV
def kidsC : List Sp.Kid → List Value
  | [] => []
  | k :: r => kidL k ++ kidsC r
def KidsOk (l : List Sp.Kid) : Prop := ∀ k ∈ l, k.2.length = 32 ∧ k.1.length ≤ 1000000
theorem kidL_len (k : Sp.Kid) (h : k.2.length = 32) : (kidL k).length = 33 := by simp [kidL, h]
theorem kidsC_len : ∀ (l : List Sp.Kid), KidsOk l → (kidsC l).length = l.length * 33
  | [], _ => rfl
  | k :: r, h => by
    rw [kidsC, List.length_append, kidL_len k (h k (List.mem_cons_self ..)).1, kidsC_len r (fun j hj => h j (List.mem_cons_of_mem _ hj)), List.length_cons]; omega
theorem kidsC_append (l m : List Sp.Kid) : kidsC (l ++ m) = kidsC l ++ kidsC m := by
  induction l with
  | nil => rfl
  | cons k r ih => rw [List.cons_append, kidsC, ih, kidsC, List.append_assoc]
theorem kidsC_get (l : List Sp.Kid) (k : Nat) (hk : k < l.length) (h : KidsOk l) (j : Nat) (v : Value) (hv : (kidL l[k])[j]? = some v) : (kidsC l)[k * 33 + j]? = some v := by
  have e : l = l.take k ++ l[k] :: l.drop (k + 1) := by rw [← List.drop_eq_getElem_cons hk, List.take_append_drop]
  have ht : (kidsC (l.take k)).length = k * 33 := by
    rw [kidsC_len _ (fun x hx => h x (List.mem_of_mem_take hx)), List.length_take, Nat.min_eq_left (Nat.le_of_lt hk)]
  have hj : j < (kidL l[k]).length := by
    rcases Nat.lt_or_ge j (kidL l[k]).length with h | h
    · exact h
    · rw [List.getElem?_eq_none h] at hv; cases hv
  have e2 : kidsC l = kidsC (l.take k) ++ (kidL l[k] ++ kidsC (l.drop (k + 1))) := by
    rw [← kidsC, ← kidsC_append, ← e]
  rw [e2, List.getElem?_append_right (by omega), ht, show k * 33 + j - k * 33 = j by omega, List.getElem?_append_left hj]
  exact hv
def Kids (w : World) (A : Option Addr) (l : List Sp.Kid) : Prop := Cells w A (kidsC l) ∧ KidsOk l
theorem Kids.ext {w w' : World} {A : Option Addr} {l : List Sp.Kid} (h : Kids w A l) (e : Ext w w') : Kids w' A l := ⟨h.1.ext e, h.2⟩
theorem Kids.nil (w : World) (A : Option Addr) : Kids w A [] := ⟨Cells.nil _ _, fun _ h => by cases h⟩
theorem Kids.at {w : World} {A : Option Addr} {l : List Sp.Kid} (h : Kids w A l) (hn : 0 < l.length) : ∃ g o, A = some ⟨g, o, none⟩ ∧ ∀ k (h : k < l.length), w.rangeAt g (o + k * 33) (kidL l[k]) := by
  obtain ⟨g, o, hA, hc⟩ := h.1 (by
    intro e
    have := kidsC_len l h.2
    rw [e] at this
    simp at this
    omega)
  refine ⟨g, o, hA, fun k hk j v hv => ?_⟩
  rw [Nat.add_assoc]
  exact hc _ _ (kidsC_get l k hk h.2 j v hv)
/-- The name's cell of a kid. -/
theorem kid_name {w : World} {g o : Nat} {k : Sp.Kid} (h : w.rangeAt g o (kidL k)) : w.cell? ⟨g, o, none⟩ = some (.string (strOf k.1)) := h 0 _ rfl
end Go.Proofs.YteiblfcehlibpaaGreatDoor
namespace Go.Proofs.YteiblfcehlibpaaGreatDoor
open Go.RowKit Go.Shelf
attribute [local go_sem] yUpon
end Go.Proofs.YteiblfcehlibpaaGreatDoor
namespace Go.Proofs.YteiblfcehlibpaaGreatDoor
open Go.RowKit Go.Shelf
attribute [local go_sem] yUpon
end Go.Proofs.YteiblfcehlibpaaGreatDoor
namespace Go.Proofs.YteiblfcehlibpaaGreatDoor
open Go.RowKit
theorem flat_one (s : ByteArray) (hs : s.size ≤ 1) (n : Nat) (h : n ≤ 100000000000000) : n + (([s] : List ByteArray).flatMap (fun s => s.data.toList)).length ≤ 140737488355328 := by
  have : s.data.toList.length = s.size := by simp
  rw [List.flatMap_cons, List.flatMap_nil, List.append_nil]
  omega
theorem Ext.from' {w0 w w' : World} (e : Ext w0 w) (k : Below w0.heap.size w w') : Ext w0 w' := Below.trans e k
/-- A writer has gone on. -/
structure WTo (B g : Nat) (x : Sp.W) (w w' : World) : Prop where
  wr : IsWr B g x w'
  below : Below B w w'
  kept : Kept w w'
  size : w.heap.size ≤ w'.heap.size
theorem WTo.ext {g : Nat} {x : Sp.W} {w0 w w' : World} (h : WTo w0.heap.size g x w w') (e : Ext w0 w) : Ext w0 w' := h.below.from e
set_option maxRecDepth 100000 in
set_option maxHeartbeats 2000000 in
theorem wflag_calls (B g : Nat) (x : Sp.W) (b : Bool) (w : World) (h : IsWr B g x w) (hlen : x.1.length ≤ 100000000000000) (hBw : B ≤ w.heap.size) :
    Calls Tryz.prog 253 #[.pointer (some ⟨g, 0, none⟩), .bool b] w fun e w' => e = .returned (.tuple #[]) ∧ WTo B g (Sp.wflag b x) w w' := by
  have PU := Lib.hid fun (s : ByteArray) (hs : s.size ≤ 1) => wput_calls B g w.heap.size x true [s] (w.alloc (.cells #[.string s] 9)) (h.below (Ext.alloc _ _)) (box_at _ _ _) (flat_one s hs _ (by omega)) (by simp; omega) (by simp)
  have HB := Lib.hid hBw
  clear h hBw
  cases b with
  | true =>
    go_enter Tryz.func253, Tryz.ntmps253
    go_wp2_with (go_at_call 247; refine (PU.out _ (by decide)).mono ?_; rintro e w2 ⟨rfl, hw2, hb2, hk2, hs2⟩)
    go_end0
    have e1 := (Below.refl _ w).alloc HB.out (.cells #[.string ⟨#[1]⟩] 9)
    exact ⟨rfl, by simpa [Sp.wflag] using hw2, e1.trans hb2, (Kept.below (Ext.alloc _ _)).trans hk2, by rw [World.size_alloc] at hs2; omega⟩
  | false =>
    go_enter Tryz.func253, Tryz.ntmps253
    go_wp2_with (go_at_call 247; refine (PU.out _ (by decide)).mono ?_; rintro e w2 ⟨rfl, hw2, hb2, hk2, hs2⟩)
    go_end0
    have e1 := (Below.refl _ w).alloc HB.out (.cells #[.string ⟨#[0]⟩] 9)
    exact ⟨rfl, by simpa [Sp.wflag] using hw2, e1.trans hb2, (Kept.below (Ext.alloc _ _)).trans hk2, by rw [World.size_alloc] at hs2; omega⟩
set_option maxRecDepth 100000 in
set_option maxHeartbeats 2000000 in
theorem putdot_calls (B g : Nat) (x : Sp.W) (d : Sp.Dot) (w : World) (h : IsWr B g x w) (hlen : x.1.length ≤ 10000000000000) (hBw : B ≤ w.heap.size) :
    Calls Tryz.prog 251 #[.pointer (some ⟨g, 0, none⟩), dotV d] w fun e w' => e = .returned (.tuple #[]) ∧ WTo B g (Sp.wdot d x) w w' := by
  have hl := Sp.wnum_len d.1 x
  have N1 := Lib.hid (wnum_calls B g x d.1 (w.alloc (.cells #[.int .i64 d.1, .int .i64 d.2] 72)) (h.below (Ext.alloc _ _)) (by omega) (by simp; omega))
  have N2 := Lib.hid fun W (hw : IsWr B g (Sp.wnum d.1 x) W) (hb : B ≤ W.heap.size) => wnum_calls B g (Sp.wnum d.1 x) d.2 W hw (by omega) hb
  have HB := Lib.hid hBw
  have BX := Lib.hid (box_at w #[.int .i64 d.1, .int .i64 d.2] 72)
  clear h hBw hl
  go_enter Tryz.func251, Tryz.ntmps251
  go_wp2_with fail
  refine N1.out.mono ?_
  rintro e w1 ⟨rfl, hw1, hb1, hk1, hs1⟩
  have z1 := hk1 _ _ _ BX.out (by decide) (by decide)
  have c1 := (z1.cell 1).trans rfl
  rw [World.size_alloc] at hs1
  have e1 := ((Below.refl B w).alloc HB.out (.cells #[.int .i64 d.1, .int .i64 d.2] 72)).trans hb1
  have k1 := (Kept.below (Ext.alloc w (.cells #[.int .i64 d.1, .int .i64 d.2] 72))).trans hk1
  have C2 := Lib.hid (N2.out w1 hw1 (by have := HB.out; omega))
  have E1 := Lib.hid e1
  have K1 := Lib.hid k1
  clear hw1 hb1 hk1 z1 e1 k1
  go_wp2_with fail
  refine C2.out.mono ?_
  rintro e w2 ⟨rfl, hw2, hb2, hk2, hs2⟩
  go_wp2_with fail
  go_end0
  exact ⟨rfl, hw2, E1.out.trans hb2, K1.out.trans hk2, by omega⟩
end Go.Proofs.YteiblfcehlibpaaGreatDoor
namespace Go.Proofs.YteiblfcehlibpaaGreatDoor
open Go.RowKit Go.Shelf
namespace Sp
end Sp
/-- The reference's writer has gone on. -/
structure RTo (g : Nat) (x : Sp.W) (w w' : World) : Prop where
  wr : isRW w' g x
  only : Only g w w'
theorem RTo.ext {g : Nat} {x : Sp.W} {w0 w w' : World} (h : RTo g x w w') (hg : w0.heap.size ≤ g) (e : Ext w0 w) : Ext w0 w' := e.from' (h.only.below hg e.size)
end Go.Proofs.YteiblfcehlibpaaGreatDoor
namespace Go.Proofs.YteiblfcehlibpaaGreatDoor
open Go.RowKit
theorem turned_pure (x : UInt32) (n : Nat) : ((x <<< UInt32.ofNat (32 - n)) ||| (x >>> UInt32.ofNat n)) = Sp.rotr x n := by
  unfold Sp.rotr; rw [UInt32.or_comm]
set_option maxRecDepth 100000 in
set_option maxHeartbeats 2000000 in
theorem rotl_calls (x : UInt32) (n : Nat) (w : World) (hn : n ∈ [2, 6, 7, 11, 13, 17, 18, 19, 22, 25]) : Calls Tryz.prog 261 #[wordV x, .int .i64 (-(n : Int))] w fun e w' => e = .returned (wordV (Sp.rotr x n)) ∧ w = w' := by
  have hx := w_lt x
  simp only [List.mem_cons, List.not_mem_nil, or_false] at hn
  rcases hn with rfl | rfl | rfl | rfl | rfl | rfl | rfl | rfl | rfl | rfl
  · have m0 : bits .and .u64 (IntKind.u64.wrap (-2)) 31 = 30 := by decide
    have s1 : IntKind.u32.wrap (wd x * 1073741824) = wd (x <<< UInt32.ofNat (32 - 2)) := w_shl x 30 (by decide)
    have s2 : wd x / 4 = wd (x >>> UInt32.ofNat 2) := w_shr x 2 (by decide)
    have s3 : bits .or .u32 (wd (x <<< UInt32.ofNat (32 - 2))) (wd (x >>> UInt32.ofNat 2)) = wd (Sp.rotr x 2) := by rw [w_or, turned_pure]
    obtain ⟨a, ha⟩ : ∃ a, a = x <<< UInt32.ofNat (32 - 2) := ⟨_, rfl⟩
    obtain ⟨b, hb⟩ : ∃ b, b = x >>> UInt32.ofNat 2 := ⟨_, rfl⟩
    obtain ⟨c, hc⟩ : ∃ c, c = Sp.rotr x 2 := ⟨_, rfl⟩
    rw [← ha] at s1 s3
    rw [← hb] at s2 s3
    rw [← hc] at s3 ⊢
    clear ha hb hc
    go_enter Tryz.func261, Tryz.ntmps261
    go_wp2
    go_ret
    exact ⟨rfl, rfl⟩
  · have m0 : bits .and .u64 (IntKind.u64.wrap (-6)) 31 = 26 := by decide
    have s1 : IntKind.u32.wrap (wd x * 67108864) = wd (x <<< UInt32.ofNat (32 - 6)) := w_shl x 26 (by decide)
    have s2 : wd x / 64 = wd (x >>> UInt32.ofNat 6) := w_shr x 6 (by decide)
    have s3 : bits .or .u32 (wd (x <<< UInt32.ofNat (32 - 6))) (wd (x >>> UInt32.ofNat 6)) = wd (Sp.rotr x 6) := by rw [w_or, turned_pure]
    obtain ⟨a, ha⟩ : ∃ a, a = x <<< UInt32.ofNat (32 - 6) := ⟨_, rfl⟩
    obtain ⟨b, hb⟩ : ∃ b, b = x >>> UInt32.ofNat 6 := ⟨_, rfl⟩
    obtain ⟨c, hc⟩ : ∃ c, c = Sp.rotr x 6 := ⟨_, rfl⟩
    rw [← ha] at s1 s3
    rw [← hb] at s2 s3
    rw [← hc] at s3 ⊢
    clear ha hb hc
    go_enter Tryz.func261, Tryz.ntmps261
    go_wp2
    go_ret
    exact ⟨rfl, rfl⟩
  · have m0 : bits .and .u64 (IntKind.u64.wrap (-7)) 31 = 25 := by decide
    have s1 : IntKind.u32.wrap (wd x * 33554432) = wd (x <<< UInt32.ofNat (32 - 7)) := w_shl x 25 (by decide)
    have s2 : wd x / 128 = wd (x >>> UInt32.ofNat 7) := w_shr x 7 (by decide)
    have s3 : bits .or .u32 (wd (x <<< UInt32.ofNat (32 - 7))) (wd (x >>> UInt32.ofNat 7)) = wd (Sp.rotr x 7) := by rw [w_or, turned_pure]
    obtain ⟨a, ha⟩ : ∃ a, a = x <<< UInt32.ofNat (32 - 7) := ⟨_, rfl⟩
    obtain ⟨b, hb⟩ : ∃ b, b = x >>> UInt32.ofNat 7 := ⟨_, rfl⟩
    obtain ⟨c, hc⟩ : ∃ c, c = Sp.rotr x 7 := ⟨_, rfl⟩
    rw [← ha] at s1 s3
    rw [← hb] at s2 s3
    rw [← hc] at s3 ⊢
    clear ha hb hc
    go_enter Tryz.func261, Tryz.ntmps261
    go_wp2
    go_ret
    exact ⟨rfl, rfl⟩
  · have m0 : bits .and .u64 (IntKind.u64.wrap (-11)) 31 = 21 := by decide
    have s1 : IntKind.u32.wrap (wd x * 2097152) = wd (x <<< UInt32.ofNat (32 - 11)) := w_shl x 21 (by decide)
    have s2 : wd x / 2048 = wd (x >>> UInt32.ofNat 11) := w_shr x 11 (by decide)
    have s3 : bits .or .u32 (wd (x <<< UInt32.ofNat (32 - 11))) (wd (x >>> UInt32.ofNat 11)) = wd (Sp.rotr x 11) := by rw [w_or, turned_pure]
    obtain ⟨a, ha⟩ : ∃ a, a = x <<< UInt32.ofNat (32 - 11) := ⟨_, rfl⟩
    obtain ⟨b, hb⟩ : ∃ b, b = x >>> UInt32.ofNat 11 := ⟨_, rfl⟩
    obtain ⟨c, hc⟩ : ∃ c, c = Sp.rotr x 11 := ⟨_, rfl⟩
    rw [← ha] at s1 s3
    rw [← hb] at s2 s3
    rw [← hc] at s3 ⊢
    clear ha hb hc
    go_enter Tryz.func261, Tryz.ntmps261
    go_wp2
    go_ret
    exact ⟨rfl, rfl⟩
  · have m0 : bits .and .u64 (IntKind.u64.wrap (-13)) 31 = 19 := by decide
    have s1 : IntKind.u32.wrap (wd x * 524288) = wd (x <<< UInt32.ofNat (32 - 13)) := w_shl x 19 (by decide)
    have s2 : wd x / 8192 = wd (x >>> UInt32.ofNat 13) := w_shr x 13 (by decide)
    have s3 : bits .or .u32 (wd (x <<< UInt32.ofNat (32 - 13))) (wd (x >>> UInt32.ofNat 13)) = wd (Sp.rotr x 13) := by rw [w_or, turned_pure]
    obtain ⟨a, ha⟩ : ∃ a, a = x <<< UInt32.ofNat (32 - 13) := ⟨_, rfl⟩
    obtain ⟨b, hb⟩ : ∃ b, b = x >>> UInt32.ofNat 13 := ⟨_, rfl⟩
    obtain ⟨c, hc⟩ : ∃ c, c = Sp.rotr x 13 := ⟨_, rfl⟩
    rw [← ha] at s1 s3
    rw [← hb] at s2 s3
    rw [← hc] at s3 ⊢
    clear ha hb hc
    go_enter Tryz.func261, Tryz.ntmps261
    go_wp2
    go_ret
    exact ⟨rfl, rfl⟩
  · have m0 : bits .and .u64 (IntKind.u64.wrap (-17)) 31 = 15 := by decide
    have s1 : IntKind.u32.wrap (wd x * 32768) = wd (x <<< UInt32.ofNat (32 - 17)) := w_shl x 15 (by decide)
    have s2 : wd x / 131072 = wd (x >>> UInt32.ofNat 17) := w_shr x 17 (by decide)
    have s3 : bits .or .u32 (wd (x <<< UInt32.ofNat (32 - 17))) (wd (x >>> UInt32.ofNat 17)) = wd (Sp.rotr x 17) := by rw [w_or, turned_pure]
    obtain ⟨a, ha⟩ : ∃ a, a = x <<< UInt32.ofNat (32 - 17) := ⟨_, rfl⟩
    obtain ⟨b, hb⟩ : ∃ b, b = x >>> UInt32.ofNat 17 := ⟨_, rfl⟩
    obtain ⟨c, hc⟩ : ∃ c, c = Sp.rotr x 17 := ⟨_, rfl⟩
    rw [← ha] at s1 s3
    rw [← hb] at s2 s3
    rw [← hc] at s3 ⊢
    clear ha hb hc
    go_enter Tryz.func261, Tryz.ntmps261
    go_wp2
    go_ret
    exact ⟨rfl, rfl⟩
  · have m0 : bits .and .u64 (IntKind.u64.wrap (-18)) 31 = 14 := by decide
    have s1 : IntKind.u32.wrap (wd x * 16384) = wd (x <<< UInt32.ofNat (32 - 18)) := w_shl x 14 (by decide)
    have s2 : wd x / 262144 = wd (x >>> UInt32.ofNat 18) := w_shr x 18 (by decide)
    have s3 : bits .or .u32 (wd (x <<< UInt32.ofNat (32 - 18))) (wd (x >>> UInt32.ofNat 18)) = wd (Sp.rotr x 18) := by rw [w_or, turned_pure]
    obtain ⟨a, ha⟩ : ∃ a, a = x <<< UInt32.ofNat (32 - 18) := ⟨_, rfl⟩
    obtain ⟨b, hb⟩ : ∃ b, b = x >>> UInt32.ofNat 18 := ⟨_, rfl⟩
    obtain ⟨c, hc⟩ : ∃ c, c = Sp.rotr x 18 := ⟨_, rfl⟩
    rw [← ha] at s1 s3
    rw [← hb] at s2 s3
    rw [← hc] at s3 ⊢
    clear ha hb hc
    go_enter Tryz.func261, Tryz.ntmps261
    go_wp2
    go_ret
    exact ⟨rfl, rfl⟩
  · have m0 : bits .and .u64 (IntKind.u64.wrap (-19)) 31 = 13 := by decide
    have s1 : IntKind.u32.wrap (wd x * 8192) = wd (x <<< UInt32.ofNat (32 - 19)) := w_shl x 13 (by decide)
    have s2 : wd x / 524288 = wd (x >>> UInt32.ofNat 19) := w_shr x 19 (by decide)
    have s3 : bits .or .u32 (wd (x <<< UInt32.ofNat (32 - 19))) (wd (x >>> UInt32.ofNat 19)) = wd (Sp.rotr x 19) := by rw [w_or, turned_pure]
    obtain ⟨a, ha⟩ : ∃ a, a = x <<< UInt32.ofNat (32 - 19) := ⟨_, rfl⟩
    obtain ⟨b, hb⟩ : ∃ b, b = x >>> UInt32.ofNat 19 := ⟨_, rfl⟩
    obtain ⟨c, hc⟩ : ∃ c, c = Sp.rotr x 19 := ⟨_, rfl⟩
    rw [← ha] at s1 s3
    rw [← hb] at s2 s3
    rw [← hc] at s3 ⊢
    clear ha hb hc
    go_enter Tryz.func261, Tryz.ntmps261
    go_wp2
    go_ret
    exact ⟨rfl, rfl⟩
  · have m0 : bits .and .u64 (IntKind.u64.wrap (-22)) 31 = 10 := by decide
    have s1 : IntKind.u32.wrap (wd x * 1024) = wd (x <<< UInt32.ofNat (32 - 22)) := w_shl x 10 (by decide)
    have s2 : wd x / 4194304 = wd (x >>> UInt32.ofNat 22) := w_shr x 22 (by decide)
    have s3 : bits .or .u32 (wd (x <<< UInt32.ofNat (32 - 22))) (wd (x >>> UInt32.ofNat 22)) = wd (Sp.rotr x 22) := by rw [w_or, turned_pure]
    obtain ⟨a, ha⟩ : ∃ a, a = x <<< UInt32.ofNat (32 - 22) := ⟨_, rfl⟩
    obtain ⟨b, hb⟩ : ∃ b, b = x >>> UInt32.ofNat 22 := ⟨_, rfl⟩
    obtain ⟨c, hc⟩ : ∃ c, c = Sp.rotr x 22 := ⟨_, rfl⟩
    rw [← ha] at s1 s3
    rw [← hb] at s2 s3
    rw [← hc] at s3 ⊢
    clear ha hb hc
    go_enter Tryz.func261, Tryz.ntmps261
    go_wp2
    go_ret
    exact ⟨rfl, rfl⟩
  · have m0 : bits .and .u64 (IntKind.u64.wrap (-25)) 31 = 7 := by decide
    have s1 : IntKind.u32.wrap (wd x * 128) = wd (x <<< UInt32.ofNat (32 - 25)) := w_shl x 7 (by decide)
    have s2 : wd x / 33554432 = wd (x >>> UInt32.ofNat 25) := w_shr x 25 (by decide)
    have s3 : bits .or .u32 (wd (x <<< UInt32.ofNat (32 - 25))) (wd (x >>> UInt32.ofNat 25)) = wd (Sp.rotr x 25) := by rw [w_or, turned_pure]
    obtain ⟨a, ha⟩ : ∃ a, a = x <<< UInt32.ofNat (32 - 25) := ⟨_, rfl⟩
    obtain ⟨b, hb⟩ : ∃ b, b = x >>> UInt32.ofNat 25 := ⟨_, rfl⟩
    obtain ⟨c, hc⟩ : ∃ c, c = Sp.rotr x 25 := ⟨_, rfl⟩
    rw [← ha] at s1 s3
    rw [← hb] at s2 s3
    rw [← hc] at s3 ⊢
    clear ha hb hc
    go_enter Tryz.func261, Tryz.ntmps261
    go_wp2
    go_ret
    exact ⟨rfl, rfl⟩
set_option maxRecDepth 100000 in
set_option maxHeartbeats 2000000 in
theorem turned_calls (x : UInt32) (n : Nat) (w : World) (hn : n ∈ [2, 6, 7, 11, 13, 17, 18, 19, 22, 25]) : Calls Tryz.prog 257 #[wordV x, .int .i64 (n : Int)] w fun e w' => e = .returned (wordV (Sp.rotr x n)) ∧ w = w' := by
  have C := Lib.hid (rotl_calls x n w hn)
  have hn' : 0 ≤ (n : Int) ∧ (n : Int) ≤ 25 := by
    simp only [List.mem_cons, List.not_mem_nil, or_false] at hn
    omega
  have n1 : IntKind.i64.wrap (-(n : Int)) = -(n : Int) := IntWalk.i64_in _ (by omega)
  clear hn
  go_enter Tryz.func257, Tryz.ntmps257
  go_wp2_with (go_at_call 261; refine C.out.mono ?_; rintro e w1 ⟨rfl, rfl⟩)
  go_ret
  exact ⟨rfl, rfl⟩
end Go.Proofs.YteiblfcehlibpaaGreatDoor
