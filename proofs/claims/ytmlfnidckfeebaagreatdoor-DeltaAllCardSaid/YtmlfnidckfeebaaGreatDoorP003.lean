/- Walks: what a coder.Writer has put. Walks: the reference's writer, and its reader. Records as bytes: plain. What a sum of thirty-two bits is: plain. Digests: plain. Nodes: plain. A region that draws its order, each of whose operations tells one value in every world of a kind, and stays within it: calls too. Walked once, in the text's order. After the library's law for regions that only read. -/
import Derived.Lib.EndianBits
import Derived.Laws.Cover1
import Derived.StillTail
import Derived.KernelRfl
import Derived.Test.YtmlfnidckfeebaaGreatDoorP002
namespace Go.Proofs.YtmlfnidckfeebaaGreatDoor
open Go.RowKit
set_option maxRecDepth 100000 in
set_option maxHeartbeats 1000000 in
theorem bstr_calls (B g : Nat) (l : List UInt8) (e : Int) (w : World) (h : IsW B g l e w) (h0 : l ≠ []) :
    Calls Tryz.prog 193 #[.pointer (some ⟨g, 0, none⟩)] w fun e' w' => e' = .returned (.string (strOf l)) ∧ Below B w w' := by
  obtain ⟨hB, p, v, hp, hblk, hown, hne⟩ := h
  have hl0 : l.length ≠ 0 := by simpa using h0
  obtain ⟨k, cap, cur, rfl, hbg, hg, hnc, hcm, hcs, htake⟩ : ∃ k cap cur, v = .slice (some ⟨k, 0, none⟩) l.length cap ∧ B ≤ k ∧ w.heap[k]? = some (.cells cur 5 (0, 0)) ∧ l.length ≤ cap ∧ cap ≤ maxLen ∧ cur.size = cap * 1 ∧ cur.toList.take (l.length * 1) = l.map byteV := by
    rcases hown.2 with ⟨_, hz⟩ | ⟨k, cap, cur, hv, r⟩
    · exact absurd hz hl0
    · exact ⟨k, cap, cur, hv, r⟩
  have c1 : w.drew.cell? ⟨g, 1, none⟩ = some (.slice (some ⟨k, 0, none⟩) l.length cap) := (hblk.cell 1).trans rfl
  have hSD : (Builtin.unsafeSliceData_ #[172] 298 #[.slice (some ⟨k, 0, none⟩) l.length cap]).run Tryz.prog w.drew = .ok (.pointer (some ⟨k, 0, none⟩)) w.drew :=
    Lib.run_unsafeSliceData_row _ _ _ _ _ _ (by omega)
  have hUS : (Builtin.unsafeString_ #[298, 3] 9 #[.pointer (some ⟨k, 0, none⟩), .int .i64 l.length]).run Tryz.prog w.drew = .ok (.string (strOf l)) (w.drew.freeze ⟨k, 0, none⟩ l.length) := by
    refine Lib.run_unsafeString_row w.drew 298 3 9 5 Tryz.underlying298 (by kernel_rfl) k cur.size (by have hg' : w.drew.heap[k]? = some (.cells cur 5 (0, 0)) := hg; simp [World.shape?, hg']) l h0 (by omega) (by unfold maxLen at hcm; omega) ?_
    intro j x hx
    have := hown.cells (g := k) rfl j (.int .u8 x.toNat) (by simp [byteV, hx])
    exact this
  clear hown hp htake hcs hcm hnc
  have HG := Lib.hid hg
  clear hg h0 hl0 hblk hne
  go_enter Tryz.func193, Tryz.ntmps193
  go_wp2
  have mixed : Tryz.prog.follows .mixedOrders = true := by kernel_rfl
  go_region_o
  all_goals (go_wp2; go_ret; exact ⟨rfl, Lib.below_freeze (Below.drew (Below.refl B w)) (p := ⟨k, 0, none⟩) hbg _⟩)
set_option maxRecDepth 100000 in
set_option maxHeartbeats 1000000 in
theorem wdone_calls (B g : Nat) (x : Sp.W) (w : World) (h : IsWr B g x w) (h0 : x.2 = 0 → x.1 ≠ []) :
    Calls Tryz.prog 125 #[.pointer (some ⟨g, 0, none⟩)] w fun e' w' => e' = .returned (.tuple #[.string (strOf (Sp.wdone x).1), .int .i64 (Sp.wdone x).2]) ∧ Below B w w' := by
  obtain ⟨c2, f2⟩ := h.cell
  by_cases h1 : x.2 = 0
  · have F := Lib.hid (show Sp.wdone x = (x.1, 0) from if_pos h1)
    have C := Lib.hid (bstr_calls B g x.1 x.2 w h (h0 h1))
    rw [h1] at c2
    clear h h0 h1
    go_enter Tryz.func125, Tryz.ntmps125
    go_wp2_with (go_at_call 193; refine C.out.mono ?_; rintro e w1 ⟨rfl, hb1⟩)
    go_ret2
    exact ⟨by rw [F.out]; rfl, hb1⟩
  · have F := Lib.hid (show Sp.wdone x = ([], x.2) from if_neg h1)
    have e1 : (x.2 == 0) = false := by simpa using h1
    clear h h0 h1
    go_enter Tryz.func125, Tryz.ntmps125
    go_wp2_with fail
    have mixed : Tryz.prog.follows .mixedOrders = true := by kernel_rfl
    go_region_o
    all_goals
      go_wp2_with fail
      go_ret2
      exact ⟨by rw [F.out]; rfl, (Below.refl _ _).drew⟩
end Go.Proofs.YtmlfnidckfeebaaGreatDoor
namespace Go.Proofs.YtmlfnidckfeebaaGreatDoor
open Go.RowKit
/-- What was there is as it was, but for one block. -/
structure Only (g : Nat) (w w' : World) : Prop where
  os : w'.os = w.os
  tape : w'.tape = w.tape
  output : w'.output = w.output
  size : w.heap.size ≤ w'.heap.size
  block : ∀ k, k < w.heap.size → k ≠ g → w'.heap[k]? = w.heap[k]?
theorem Only.refl (g : Nat) (w : World) : Only g w w := ⟨rfl, rfl, rfl, Nat.le_refl _, fun _ _ _ => rfl⟩
theorem Only.of_below {w w' : World} (g : Nat) (h : Below w.heap.size w w') : Only g w w' := ⟨h.os, h.tape, h.output, h.size, fun k hk _ => h.block k hk⟩
theorem Only.trans {g : Nat} {a b c : World} (h : Only g a b) (k : Only g b c) : Only g a c :=
  ⟨k.os.trans h.os, k.tape.trans h.tape, k.output.trans h.output, Nat.le_trans h.size k.size, fun j hj hn => (k.block j (Nat.lt_of_lt_of_le hj h.size) hn).trans (h.block j hj hn)⟩
theorem Only.below {g B : Nat} {w w' : World} (h : Only g w w') (hB : B ≤ g) (hw : B ≤ w.heap.size) : Below B w w' :=
  ⟨h.os, h.tape, h.output, h.size, fun k hk => h.block k (by omega) (by omega)⟩
theorem Only.blk {g k t : Nat} {cs : Array Value} {w w' : World} (h : Only g w w') (hk : isBlk w k t cs) (hn : k ≠ g) : isBlk w' k t cs := (h.block k hk.lt hn).trans hk
theorem Only.set (g j : Nat) (u : Value) (w : World) : Only g w (w.setCell ⟨g, j, none⟩ u) := ⟨rfl, rfl, rfl, by simp, fun k _ hn => Below.heap_setCell _ _ _ _ hn⟩
theorem Only.drew {g : Nat} {w w' : World} (h : Only g w w') : Only g w w'.drew := ⟨h.os, h.tape, h.output, h.size, h.block⟩
/-- The reference's writer in memory. -/
abbrev isRW (w : World) (g : Nat) (x : Sp.W) : Prop := isBlk w g 186 #[.string (strOf x.1), .int .i64 x.2]
theorem isRW.set (x : Sp.W) (w : World) (g : Nat) (h : isRW w g x) (l : List UInt8) (e : Int) : isRW (w.setCell ⟨g, 0, none⟩ (.string (strOf l))) g (l, x.2) ∧ isRW (w.setCell ⟨g, 1, none⟩ (.int .i64 e)) g (x.1, e) := ⟨h.put 0 _ rfl, h.put 1 _ rfl⟩
end Go.Proofs.YtmlfnidckfeebaaGreatDoor
namespace Go.Proofs.YtmlfnidckfeebaaGreatDoor
namespace Sp
def wflag (b : Bool) (x : W) : W := wput true [if b then 1 else 0] x
def wdigest (d : Bs) (x : W) : W := wput true d x
def wdot (d : Dot) (x : W) : W := wnum d.2 (wnum d.1 x)
def wdots (l : List Dot) (x : W) : W := l.foldl (fun x d => wdot d x) x
def wvec (v : List Dot) (x : W) : W := if vcheck v ≠ 0 then wfail (vcheck v) x else wdots v (wnum v.length x)
def wver (v : Ver) (x : W) : W := wtext v.data (wflag v.dead (wvec v.past (wdot v.dot x)))
def wvers (l : List Ver) (x : W) : W := l.foldl (fun x v => wver v x) x
def wleaf (l : List Ver) (x : W) : W := if leaf l ≠ 0 then wfail (leaf l) x else wvers l (wnum l.length x)
theorem wflag_len (b : Bool) (x : W) : (wflag b x).1.length ≤ x.1.length + 1 := by have := wput_len true [if b then 1 else 0] x; unfold wflag; simpa using this
theorem wdot_len (d : Dot) (x : W) : (wdot d x).1.length ≤ x.1.length + 10 := by
  have := wnum_len d.2 (wnum d.1 x); have := wnum_len d.1 x; unfold wdot; omega
theorem wdots_len (l : List Dot) : ∀ x : W, (wdots l x).1.length ≤ x.1.length + 10 * l.length := by
  induction l with
  | nil => intro x; simp [wdots]
  | cons d r ih =>
    intro x
    have h1 := ih (wdot d x)
    have h2 := wdot_len d x
    unfold wdots at *
    rw [List.foldl_cons, List.length_cons]
    omega
theorem wdots_snoc (l : List Dot) (d : Dot) (x : W) : wdots (l ++ [d]) x = wdot d (wdots l x) := by simp [wdots]
theorem wvers_snoc (l : List Ver) (v : Ver) (x : W) : wvers (l ++ [v]) x = wver v (wvers l x) := by simp [wvers]
theorem vgo_len : ∀ (l : List Dot) (last : Int), -1 ≤ last → last ≤ 63 → vgo last l = 0 → (l.length : Int) ≤ 63 - last
  | [], last, _, _, _ => by simp; omega
  | d :: r, last, h1, h2, h => by
    rw [vgo] at h
    by_cases hd : dot d = 0
    · rw [if_neg (by simpa using hd)] at h
      by_cases hl : d.1 ≤ last
      · rw [if_pos hl] at h; cases h
      · rw [if_neg hl] at h
        have hd' := dot_ok.1 hd
        have := vgo_len r d.1 (by omega) (by omega) h
        rw [List.length_cons]
        omega
    · rw [if_pos hd] at h; exact absurd h hd
theorem vcheck_len {l : List Dot} (h : vcheck l = 0) : l.length ≤ 64 := by
  have := vgo_len l (-1) (by omega) (by omega) h
  omega
theorem wvec_len (v : List Dot) (x : W) : (wvec v x).1.length ≤ x.1.length + 645 := by
  unfold wvec
  split
  · rw [wfail_len]; omega
  · rename_i h
    have hl := vcheck_len (l := v) (by simpa using h)
    have h1 := wdots_len v (wnum v.length x)
    have h2 := wnum_len (v.length : Int) x
    omega
theorem wver_len (v : Ver) (x : W) : (wver v x).1.length ≤ x.1.length + (661 + v.data.length) := by
  have h1 := wtext_len v.data (wflag v.dead (wvec v.past (wdot v.dot x)))
  have h2 := wflag_len v.dead (wvec v.past (wdot v.dot x))
  have h3 := wvec_len v.past (wdot v.dot x)
  have h4 := wdot_len v.dot x
  unfold wver
  omega
theorem wvers_len (l : List Ver) (n : Nat) : (∀ v ∈ l, v.data.length ≤ n) → ∀ x : W, (wvers l x).1.length ≤ x.1.length + (661 + n) * l.length := by
  induction l with
  | nil => intro _ x; simp [wvers]
  | cons d r ih =>
    intro h x
    have h1 := ih (fun v hv => h v (by simp [hv])) (wver d x)
    have h2 := wver_len d x
    have h3 := h d (by simp)
    unfold wvers at *
    rw [List.foldl_cons, List.length_cons, Nat.mul_add]
    omega
theorem lgo_vers : ∀ (l : List Ver) (last : Option Int), lgo last l = 0 → ∀ v ∈ l, vercheck v = 0
  | [], _, _, _, hv => by cases hv
  | v :: r, last, h, u, hu => by
    rw [lgo] at h
    by_cases hd : vercheck v = 0
    · rw [if_neg (by simpa using hd)] at h
      by_cases hl : ∃ x, last = some x ∧ v.dot.1 ≤ x
      · rw [if_pos hl] at h; cases h
      · rw [if_neg hl] at h
        rcases List.mem_cons.1 hu with rfl | hu
        · exact hd
        · exact lgo_vers r _ h u hu
    · rw [if_pos hd] at h; exact absurd h hd
/-- What holds of a version that may be. -/
theorem vercheck_ok {v : Ver} (h : vercheck v = 0) : dot v.dot = 0 ∧ vcheck v.past = 0 ∧ vhas v.past v.dot = false ∧ v.data.length ≤ 48 ∧ (v.dead = true → v.data = []) := by
  unfold vercheck at h
  by_cases h1 : dot v.dot = 0
  · rw [if_neg (by simpa using h1)] at h
    by_cases h2 : vcheck v.past = 0
    · rw [if_neg (by simpa using h2)] at h
      by_cases h3 : vhas v.past v.dot = true
      · rw [if_pos h3] at h; cases h
      · rw [if_neg h3] at h
        by_cases h4 : 48 < v.data.length
        · rw [if_pos h4] at h; cases h
        · rw [if_neg h4] at h
          by_cases h5 : v.dead = true ∧ v.data ≠ []
          · rw [if_pos h5] at h; cases h
          · refine ⟨h1, h2, by simpa using h3, by omega, fun hd => ?_⟩
            exact Classical.byContradiction fun hn => h5 ⟨hd, hn⟩
    · rw [if_pos h2] at h; exact absurd h h2
  · rw [if_pos h1] at h; exact absurd h h1
/-- What holds of a leaf. -/
theorem leaf_ok {l : List Ver} (h : leaf l = 0) : l.length ≤ 64 ∧ lgo none l = 0 ∧ (l.any fun v => covered l v) = false := by
  unfold leaf at h
  by_cases h1 : 64 < l.length
  · rw [if_pos h1] at h; cases h
  · rw [if_neg h1] at h
    by_cases h2 : lgo none l = 0
    · rw [if_neg (by simpa using h2)] at h
      by_cases h3 : (l.any fun v => covered l v) = true
      · rw [if_pos h3] at h; cases h
      · exact ⟨by omega, h2, by simpa using h3⟩
    · rw [if_pos h2] at h; exact absurd h h2
theorem leaf_data {l : List Ver} (h : leaf l = 0) : ∀ v ∈ l, v.data.length ≤ 48 := fun v hv => (vercheck_ok (lgo_vers l none (leaf_ok h).2.1 v hv)).2.2.2.1
theorem wleaf_len (l : List Ver) (x : W) : (wleaf l x).1.length ≤ x.1.length + 45381 := by
  unfold wleaf
  split
  · rw [wfail_len]; omega
  · rename_i h
    have h' : leaf l = 0 := by simpa using h
    have h1 := wvers_len l 48 (leaf_data h') (wnum l.length x)
    have h2 := wnum_len (l.length : Int) x
    have h3 := (leaf_ok h').1
    have h4 : (661 + 48) * l.length ≤ (661 + 48) * 64 := Nat.mul_le_mul_left _ h3
    omega
end Sp
end Go.Proofs.YtmlfnidckfeebaaGreatDoor
namespace Go.Proofs.YtmlfnidckfeebaaGreatDoor
namespace Sp
def crcBit (v : Nat) : Nat := if v % 2 = 1 then (v / 2) ^^^ 3988292384 else v / 2
def crcBits : Nat → Nat → Nat
  | 0, v => v
  | n + 1, v => crcBit (crcBits n v)
def crcByte (v : Nat) (b : UInt8) : Nat := crcBits 8 (v ^^^ b.toNat)
def crcGo (l : List UInt8) : Nat := l.foldl crcByte 4294967295
def crc (l : List UInt8) : Nat := 4294967295 - crcGo l
/-- The four bytes of a sum. -/
def le4 (v : Nat) : List UInt8 := [UInt8.ofNat v, UInt8.ofNat (v / 256), UInt8.ofNat (v / 65536), UInt8.ofNat (v / 16777216)]
def sealed (l : List UInt8) : List UInt8 := l ++ le4 (crc l)
/-- What is sealed, if anything is. -/
def opened (l : List UInt8) : Option (List UInt8) := if l.length < 4 then none else if sealed (l.take (l.length - 4)) = l then some (l.take (l.length - 4)) else none
end Sp
theorem wr32 (n : Int) (h0 : 0 ≤ n) (h1 : n < 2 ^ 32) : IntKind.u32.wrap n = n := by rw [IntKind.wrap_u32]; omega
end Go.Proofs.YtmlfnidckfeebaaGreatDoor
namespace Go.Proofs.YtmlfnidckfeebaaGreatDoor
open Go.RowKit
namespace Sp
def keys : List UInt32 := [
    0x428a2f98, 0x71374491, 0xb5c0fbcf, 0xe9b5dba5, 0x3956c25b, 0x59f111f1, 0x923f82a4, 0xab1c5ed5,
    0xd807aa98, 0x12835b01, 0x243185be, 0x550c7dc3, 0x72be5d74, 0x80deb1fe, 0x9bdc06a7, 0xc19bf174,
    0xe49b69c1, 0xefbe4786, 0x0fc19dc6, 0x240ca1cc, 0x2de92c6f, 0x4a7484aa, 0x5cb0a9dc, 0x76f988da,
    0x983e5152, 0xa831c66d, 0xb00327c8, 0xbf597fc7, 0xc6e00bf3, 0xd5a79147, 0x06ca6351, 0x14292967,
    0x27b70a85, 0x2e1b2138, 0x4d2c6dfc, 0x53380d13, 0x650a7354, 0x766a0abb, 0x81c2c92e, 0x92722c85,
    0xa2bfe8a1, 0xa81a664b, 0xc24b8b70, 0xc76c51a3, 0xd192e819, 0xd6990624, 0xf40e3585, 0x106aa070,
    0x19a4c116, 0x1e376c08, 0x2748774c, 0x34b0bcb5, 0x391c0cb3, 0x4ed8aa4a, 0x5b9cca4f, 0x682e6ff3,
    0x748f82ee, 0x78a5636f, 0x84c87814, 0x8cc70208, 0x90befffa, 0xa4506ceb, 0xbef9a3f7, 0xc67178f2]
theorem keys_len : keys.length = 64 := rfl
def start : List UInt32 := [0x6a09e667, 0xbb67ae85, 0x3c6ef372, 0xa54ff53a, 0x510e527f, 0x9b05688c, 0x1f83d9ab, 0x5be0cd19]
/-- A word, turned. -/
def rotr (x : UInt32) (n : Nat) : UInt32 := (x >>> UInt32.ofNat n) ||| (x <<< UInt32.ofNat (32 - n))
def lowS (x : UInt32) : UInt32 := rotr x 7 ^^^ rotr x 18 ^^^ (x >>> 3)
def highS (x : UInt32) : UInt32 := rotr x 17 ^^^ rotr x 19 ^^^ (x >>> 10)
/-- A word of four bytes. -/
def be (b : Bs) (i : Nat) : UInt32 := (b.getD (4 * i) 0).toUInt32 <<< 24 ||| (b.getD (4 * i + 1) 0).toUInt32 <<< 16 ||| (b.getD (4 * i + 2) 0).toUInt32 <<< 8 ||| (b.getD (4 * i + 3) 0).toUInt32
def first (b : Bs) (n : Nat) : List UInt32 := (List.range n).map (be b)
/-- The next word of a schedule. -/
def next (l : List UInt32) : UInt32 := l.getD (l.length - 16) 0 + lowS (l.getD (l.length - 15) 0) + l.getD (l.length - 7) 0 + highS (l.getD (l.length - 2) 0)
def sched (b : Bs) : Nat → List UInt32
  | 0 => first b 16
  | n + 1 => sched b n ++ [next (sched b n)]
theorem first_len (b : Bs) (n : Nat) : (first b n).length = n := by simp [first]
theorem sched_len (b : Bs) : ∀ n, (sched b n).length = 16 + n
  | 0 => first_len b 16
  | n + 1 => by rw [sched, List.length_append, sched_len b n]; rfl
def rnd : List UInt32 → UInt32 → UInt32 → List UInt32
  | [a, b, c, d, e, f, g, h], k, w =>
    [(h + (rotr e 6 ^^^ rotr e 11 ^^^ rotr e 25) + ((e &&& f) ^^^ (~~~e &&& g)) + k + w) + ((rotr a 2 ^^^ rotr a 13 ^^^ rotr a 22) + ((a &&& b) ^^^ (a &&& c) ^^^ (b &&& c))), a, b, c,
      d + (h + (rotr e 6 ^^^ rotr e 11 ^^^ rotr e 25) + ((e &&& f) ^^^ (~~~e &&& g)) + k + w), e, f, g]
  | l, _, _ => l
def rnds (w : List UInt32) (h : List UInt32) (n : Nat) : List UInt32 := ((keys.zip w).take n).foldl (fun l kw => rnd l kw.1 kw.2) h
def mix (h : List UInt32) (b : Bs) : List UInt32 := List.zipWith (· + ·) (rnds (sched b 48) h 64) h
def mixN : Nat → List UInt32 → Bs → List UInt32
  | 0, h, _ => h
  | n + 1, h, l => mixN n (mix h (l.take 64)) (l.drop 64)
/-- A number's eight bytes. -/
def be8 (n : Nat) : Bs := (List.range 8).map fun i => UInt8.ofNat (n / 2 ^ (56 - 8 * i))
/-- What is put behind n bytes, of m in all. -/
def padding (n m : Nat) : Bs := 128 :: List.replicate ((119 - n % 64) % 64) 0 ++ be8 (m * 8)
def pad (l : Bs) : Bs := l ++ padding l.length l.length
def digest (h : List UInt32) : Bs := h.flatMap fun x => [UInt8.ofNat (x.toNat / 16777216), UInt8.ofNat (x.toNat / 65536), UInt8.ofNat (x.toNat / 256), UInt8.ofNat x.toNat]
def sha (l : Bs) : Bs := digest (mixN ((pad l).length / 64) start (pad l))
theorem rnd_len (l : List UInt32) (k w : UInt32) (h : l.length = 8) : (rnd l k w).length = 8 := by
  match l, h with
  | [a, b, c, d, e, f, g, x], _ => rfl
theorem rnds_len (w h : List UInt32) (n : Nat) (hh : h.length = 8) : (rnds w h n).length = 8 := by
  unfold rnds
  generalize (keys.zip w).take n = l
  induction l generalizing h with
  | nil => exact hh
  | cons x r ih => exact ih _ (rnd_len _ _ _ hh)
theorem rnds_succ (w h : List UInt32) (n : Nat) (hw : w.length = 64) (hn : n < 64) : rnds w h (n + 1) = rnd (rnds w h n) (keys.getD n 0) (w.getD n 0) := by
  unfold rnds
  have hl : n < (keys.zip w).length := by rw [List.length_zip, keys_len, hw]; exact hn
  rw [List.take_succ_eq_append_getElem hl, List.foldl_append]
  simp [List.getD_eq_getElem?_getD, List.getElem?_eq_getElem (show n < keys.length from hn), List.getElem?_eq_getElem (show n < w.length by omega)]
theorem mix_len (h : List UInt32) (b : Bs) (hh : h.length = 8) : (mix h b).length = 8 := by
  unfold mix; rw [List.length_zipWith, rnds_len _ _ _ hh, hh]; rfl
theorem mixN_len : ∀ (n : Nat) (h : List UInt32) (l : Bs), h.length = 8 → (mixN n h l).length = 8
  | 0, _, _, hh => hh
  | n + 1, h, _, hh => mixN_len n _ _ (mix_len h _ hh)
theorem mixN_snoc : ∀ (n : Nat) (h : List UInt32) (l : Bs), mixN (n + 1) h l = mix (mixN n h l) ((l.drop (64 * n)).take 64)
  | 0, h, l => by simp [mixN]
  | n + 1, h, l => by
    rw [mixN, mixN_snoc n, mixN, List.drop_drop]
    congr 3
    omega
theorem mixN_add (a : Nat) : ∀ (b : Nat) (h : List UInt32) (l : Bs), mixN (b + a) h l = mixN a (mixN b h l) (l.drop (64 * b))
  | 0, h, l => by simp [mixN]
  | b + 1, h, l => by
    rw [show b + 1 + a = (b + a) + 1 by omega, mixN, mixN_add a b, mixN, List.drop_drop]
    congr 2
    omega
theorem mixN_pre : ∀ (n : Nat) (h : List UInt32) (l m : Bs), 64 * n ≤ l.length → mixN n h (l ++ m) = mixN n h l
  | 0, _, _, _, _ => rfl
  | n + 1, h, l, m, hl => by
    rw [mixN, mixN, List.take_append_of_le_length (by omega), List.drop_append_of_le_length (by omega)]
    exact mixN_pre n _ _ _ (by rw [List.length_drop]; omega)
theorem be8_len (n : Nat) : (be8 n).length = 8 := by simp [be8]
theorem digest_len (h : List UInt32) : (digest h).length = h.length * 4 := by
  induction h with
  | nil => rfl
  | cons x r ih => unfold digest at *; rw [List.flatMap_cons, List.length_append, ih, List.length_cons]; simp; omega
theorem sha_len (l : Bs) : (sha l).length = 32 := by
  unfold sha; rw [digest_len, mixN_len _ _ _ rfl]
end Sp
/-- A word as a number. -/
def wd (x : UInt32) : Int := (x.toNat : Int)
/-- A word. -/
abbrev wordV (x : UInt32) : Value := .int .u32 (wd x)
def wordsC (l : List UInt32) : Array Value := (l.map wordV).toArray
theorem wordsC_size (l : List UInt32) : (wordsC l).size = l.length := by simp [wordsC]
theorem wordsC_get (l : List UInt32) (i : Nat) (h : i < l.length) : (wordsC l)[i]? = some (wordV (l.getD i 0)) := by simp [wordsC, h]
theorem wordsC_set (l : List UInt32) (i : Nat) (x : UInt32) : (wordsC l).setIfInBounds i (wordV x) = wordsC (l.set i x) := by
  apply Array.ext'
  simp [wordsC, List.map_set]
theorem wordsC_one (l : List UInt32) : (wordsC l).all (·.oneCell') = true := by
  simp [wordsC, Value.oneCell']
theorem w32 (n : Int) : IntKind.u32.wrap n = n % 4294967296 := by rw [IntKind.wrap_u32]
theorem w_add (x y : UInt32) : IntKind.u32.wrap (wd x + wd y) = wd (x + y) := by
  unfold wd; rw [w32, UInt32.toNat_add]; omega
theorem bits32 (x : UInt32) : (BitVec.ofInt 32 (wd x)) = x.toBitVec := by
  apply BitVec.eq_of_toNat_eq
  unfold wd
  rw [BitVec.ofInt_natCast, BitVec.toNat_ofNat]
  exact Nat.mod_eq_of_lt x.toNat_lt
theorem w_lt (x : UInt32) : 0 ≤ wd x ∧ wd x < 4294967296 := by have := x.toNat_lt; unfold wd; omega
theorem w_xor (x y : UInt32) : bits .xor .u32 (wd x) (wd y) = wd (x ^^^ y) := by
  show IntKind.u32.wrap ((BitVec.ofInt 32 (wd x) ^^^ BitVec.ofInt 32 (wd y)).toNat : Int) = _
  rw [bits32 x, bits32 y, wr32 _ (Int.natCast_nonneg _) (by have := (x.toBitVec ^^^ y.toBitVec).isLt; omega)]
  rfl
theorem w_and (x y : UInt32) : bits .and .u32 (wd x) (wd y) = wd (x &&& y) := by
  show IntKind.u32.wrap ((BitVec.ofInt 32 (wd x) &&& BitVec.ofInt 32 (wd y)).toNat : Int) = _
  rw [bits32 x, bits32 y, wr32 _ (Int.natCast_nonneg _) (by have := (x.toBitVec &&& y.toBitVec).isLt; omega)]
  rfl
theorem w_or (x y : UInt32) : bits .or .u32 (wd x) (wd y) = wd (x ||| y) := by
  show IntKind.u32.wrap ((BitVec.ofInt 32 (wd x) ||| BitVec.ofInt 32 (wd y)).toNat : Int) = _
  rw [bits32 x, bits32 y, wr32 _ (Int.natCast_nonneg _) (by have := (x.toBitVec ||| y.toBitVec).isLt; omega)]
  rfl
theorem w_shr (x : UInt32) (n : Nat) (hn : n < 32) : (wd x / ((2 ^ n : Nat) : Int)) = wd (x >>> UInt32.ofNat n) := by
  unfold wd
  rw [UInt32.toNat_shiftRight, Nat.shiftRight_eq_div_pow]
  rw [show (UInt32.ofNat n).toNat % 32 = n by rw [UInt32.toNat_ofNat']; omega]
  exact (Int.natCast_ediv _ _).symm
theorem w_shl (x : UInt32) (n : Nat) (hn : n < 32) : IntKind.u32.wrap (wd x * ((2 ^ n : Nat) : Int)) = wd (x <<< UInt32.ofNat n) := by
  unfold wd
  rw [UInt32.toNat_shiftLeft, Nat.shiftLeft_eq, w32]
  rw [show (UInt32.ofNat n).toNat % 32 = n by rw [UInt32.toNat_ofNat']; omega]
  rw [← Int.natCast_mul]
  exact (Int.natCast_emod _ _).symm
theorem w_wrap (x : UInt32) : IntKind.u32.wrap (wd x) = wd x := by have := w_lt x; rw [w32]; omega
theorem w_shl8 (x : UInt32) : IntKind.u32.wrap (wd x * (256 : Int)) = wd (x <<< 8) := w_shl x 8 (by decide)
theorem w_shl16 (x : UInt32) : IntKind.u32.wrap (wd x * (65536 : Int)) = wd (x <<< 16) := w_shl x 16 (by decide)
theorem w_shl24 (x : UInt32) : IntKind.u32.wrap (wd x * (16777216 : Int)) = wd (x <<< 24) := w_shl x 24 (by decide)
theorem w_shr3 (x : UInt32) : wd x / (8 : Int) = wd (x >>> 3) := w_shr x 3 (by decide)
theorem w_shr10 (x : UInt32) : wd x / (1024 : Int) = wd (x >>> 10) := w_shr x 10 (by decide)
end Go.Proofs.YtmlfnidckfeebaaGreatDoor
namespace Go.Proofs.YtmlfnidckfeebaaGreatDoor
open Go.RowKit
namespace Sp
abbrev Kid := Bs × Bs
abbrev Node := List Ver × List Kid
def le (a b : Bs) : Bool := Op.bytesLess a b || a == b
def kgo : Option Bs → List Kid → Int
  | _, [] => 0
  | p, k :: r => if name k.1 = false then 1 else if p.any (le k.1) = true then 8 else kgo (some k.1) r
def kcheck (l : List Kid) : Int := if 128 < l.length then 2 else kgo none l
def ncheck (n : Node) : Int := if leaf n.1 ≠ 0 then leaf n.1 else kcheck n.2
/-- The name ahead of a place. -/
def pv (l : List Kid) (k : Nat) : Option Bs := if k = 0 then none else (l[k - 1]?).map (·.1)
theorem kgo_step (l : List Kid) (k : Nat) (h : k < l.length) : kgo (pv l k) (l.drop k) = if name l[k].1 = false then 1 else if (pv l k).any (le l[k].1) = true then 8 else kgo (pv l (k + 1)) (l.drop (k + 1)) := by
  have e : pv l (k + 1) = some l[k].1 := by simp [pv, h]
  rw [List.drop_eq_getElem_cons h, kgo, e]
def wkid (k : Kid) (x : W) : W := wdigest k.2 (wtext k.1 x)
def wkids (l : List Kid) (x : W) : W := l.foldl (fun x k => wkid k x) x
def wnode (n : Node) : W := wkids n.2 (wnum n.2.length (wleaf n.1 ([], 0)))
def nbytes (n : Node) : W := if ncheck n ≠ 0 then ([], ncheck n) else wdone (wnode n)
def nsum (n : Node) : Bs := if (nbytes n).2 ≠ 0 then List.replicate 32 0 else sha (nbytes n).1
theorem nsum_len (n : Node) : (nsum n).length = 32 := by
  unfold nsum; split
  · simp
  · exact sha_len _
theorem wkids_snoc (l : List Kid) (k : Kid) (x : W) : wkids (l ++ [k]) x = wkid k (wkids l x) := by simp [wkids]
theorem wkid_len (k : Kid) (x : W) : (wkid k x).1.length ≤ x.1.length + k.1.length + k.2.length + 20 := by
  have h1 := wput_len true k.2 (wtext k.1 x)
  have h2 := wtext_len k.1 x
  unfold wkid wdigest
  omega
theorem wkids_len (m n : Nat) : ∀ (l : List Kid) (x : W), (∀ k ∈ l, k.1.length ≤ m ∧ k.2.length ≤ n) → (wkids l x).1.length ≤ x.1.length + l.length * (m + n + 20)
  | [], x, _ => by simp [wkids]
  | k :: r, x, h => by
    have h1 := wkids_len m n r (wkid k x) (fun j hj => h j (List.mem_cons_of_mem _ hj))
    have h2 := wkid_len k x
    have h3 := h k (List.mem_cons_self ..)
    rw [show wkids (k :: r) x = wkids r (wkid k x) from rfl, List.length_cons, Nat.succ_mul]
    omega
theorem wput_some (b : Bool) (s : Bs) (x : W) (h : x.2 = 0 → x.1 ≠ []) : (wput b s x).2 = 0 → (wput b s x).1 ≠ [] := by
  unfold wput
  split
  · rename_i h2; intro h3; exact absurd h3 h2
  · rename_i h2
    have := h (by simpa using h2)
    split
    · intro _; simp [this]
    · intro h3; cases h3
theorem wkids_some : ∀ (l : List Kid) (x : W), (x.2 = 0 → x.1 ≠ []) → (wkids l x).2 = 0 → (wkids l x).1 ≠ []
  | [], _, h => h
  | k :: r, x, h => wkids_some r (wkid k x) (wput_some _ _ _ (wput_some _ _ _ h))
theorem wnum_some (n : Int) (x : W) : (wnum n x).2 = 0 → (wnum n x).1 ≠ [] := by
  unfold wnum wput
  split
  · rename_i h2; intro h3; exact absurd h3 h2
  · split
    · rename_i hd
      have h5 := put_ne.2 (of_decide_eq_true hd)
      intro _; simp [h5]
    · intro h3; cases h3
theorem wnode_some (n : Node) : (wnode n).2 = 0 → (wnode n).1 ≠ [] := wkids_some _ _ (wnum_some _ _)
theorem ncheck_ok {n : Node} (h : ncheck n = 0) : leaf n.1 = 0 ∧ n.2.length ≤ 128 ∧ kgo none n.2 = 0 := by
  unfold ncheck at h
  split at h
  · rename_i h2; exact absurd h h2
  · rename_i h2
    unfold kcheck at h
    split at h
    · cases h
    · exact ⟨by simpa using h2, by omega, h⟩
end Sp
/-- A kid's cells. -/
def kidL (k : Sp.Kid) : List Value := .string (strOf k.1) :: k.2.map byteV
def kidsC : List Sp.Kid → List Value
  | [] => []
  | k :: r => kidL k ++ kidsC r
def KidsOk (l : List Sp.Kid) : Prop := ∀ k ∈ l, k.2.length = 32 ∧ k.1.length ≤ 1000000
theorem kidL_len (k : Sp.Kid) (h : k.2.length = 32) : (kidL k).length = 33 := by simp [kidL, h]
theorem kidsC_len : ∀ (l : List Sp.Kid), KidsOk l → (kidsC l).length = l.length * 33
  | [], _ => rfl
  | k :: r, h => by
    rw [kidsC, List.length_append, kidL_len k (h k (List.mem_cons_self ..)).1, kidsC_len r (fun j hj => h j (List.mem_cons_of_mem _ hj)), List.length_cons]; omega
theorem kidsC_append (l m : List Sp.Kid) : kidsC (l ++ m) = kidsC l ++ kidsC m := by
  induction l with
  | nil => rfl
  | cons k r ih => rw [List.cons_append, kidsC, ih, kidsC, List.append_assoc]
theorem kidsC_get (l : List Sp.Kid) (k : Nat) (hk : k < l.length) (h : KidsOk l) (j : Nat) (v : Value) (hv : (kidL l[k])[j]? = some v) : (kidsC l)[k * 33 + j]? = some v := by
  have e : l = l.take k ++ l[k] :: l.drop (k + 1) := by rw [← List.drop_eq_getElem_cons hk, List.take_append_drop]
  have ht : (kidsC (l.take k)).length = k * 33 := by
    rw [kidsC_len _ (fun x hx => h x (List.mem_of_mem_take hx)), List.length_take, Nat.min_eq_left (Nat.le_of_lt hk)]
  have hj : j < (kidL l[k]).length := by
    rcases Nat.lt_or_ge j (kidL l[k]).length with h | h
    · exact h
    · rw [List.getElem?_eq_none h] at hv; cases hv
  have e2 : kidsC l = kidsC (l.take k) ++ (kidL l[k] ++ kidsC (l.drop (k + 1))) := by
    rw [← kidsC, ← kidsC_append, ← e]
  rw [e2, List.getElem?_append_right (by omega), ht, show k * 33 + j - k * 33 = j by omega, List.getElem?_append_left hj]
  exact hv
def Kids (w : World) (A : Option Addr) (l : List Sp.Kid) : Prop := Cells w A (kidsC l) ∧ KidsOk l
theorem Kids.ext {w w' : World} {A : Option Addr} {l : List Sp.Kid} (h : Kids w A l) (e : Ext w w') : Kids w' A l := ⟨h.1.ext e, h.2⟩
theorem Kids.nil (w : World) (A : Option Addr) : Kids w A [] := ⟨Cells.nil _ _, fun _ h => by cases h⟩
theorem Kids.at {w : World} {A : Option Addr} {l : List Sp.Kid} (h : Kids w A l) (hn : 0 < l.length) : ∃ g o, A = some ⟨g, o, none⟩ ∧ ∀ k (h : k < l.length), w.rangeAt g (o + k * 33) (kidL l[k]) := by
  obtain ⟨g, o, hA, hc⟩ := h.1 (by
    intro e
    have := kidsC_len l h.2
    rw [e] at this
    simp at this
    omega)
  refine ⟨g, o, hA, fun k hk j v hv => ?_⟩
  rw [Nat.add_assoc]
  exact hc _ _ (kidsC_get l k hk h.2 j v hv)
/-- The name's cell of a kid. -/
theorem kid_name {w : World} {g o : Nat} {k : Sp.Kid} (h : w.rangeAt g o (kidL k)) : w.cell? ⟨g, o, none⟩ = some (.string (strOf k.1)) := h 0 _ rfl
end Go.Proofs.YtmlfnidckfeebaaGreatDoor
namespace Go.Proofs.YtmlfnidckfeebaaGreatDoor
section
variable {P : Program} {ops : Array Oper} {md : Region.Mode} {S : World → Prop}

/-- What an operation comes to: v, in a world of the kind S. -/
def yUpon (P : Program) (S : World → Prop) (v : Value) : Result Next → Prop
  | .ok (.value u) w' => u = v ∧ S w'
  | .ok .skip w' => v = undef ∧ S w'
  | .ok (.enter f args) w' => Calls P f args w' (fun e w'' => e = .returned v ∧ S w'')
  | _ => False

def YieldsS (P : Program) (ops : Array Oper) (S : World → Prop) (o : Oper) (v : Value) (a : Act) : Prop :=
  (Region.wanted o (yielded ops a.tmps) = true ∧ ∀ w, S w → yUpon P S v ((execOp a.eval o).run P w)) ∨ (Region.wanted o (yielded ops a.tmps) = false ∧ v = undef)

theorem YieldsS.of_same {o : Oper} {v : Value} {a a' : Act} (hy : YieldsS P ops S o v a) (he : execOp a'.eval o = execOp a.eval o)
    (hw : Region.wanted o (yielded ops a'.tmps) = Region.wanted o (yielded ops a.tmps)) : YieldsS P ops S o v a' := by
  unfold YieldsS at *
  rw [he, hw]
  exact hy

def dOp (P : Program) (ops : Array Oper) (S : World → Prop) (i : Nat) (K : Act → Prop) (a : Act) : Prop :=
  match ops[i]? with
  | none => K a
  | some o => ∃ v, YieldsS P ops S o v a ∧ K (a.put o.dst v)

theorem dOp_mono {i : Nat} {a : Act} {K K' : Act → Prop} (h : ∀ a, K a → K' a) (hh : dOp P ops S i K a) : dOp P ops S i K' a := by
  unfold dOp at *
  split
  · rename_i ho; simp only [ho] at hh; exact h _ hh
  · rename_i o ho
    simp only [ho] at hh
    obtain ⟨v, hy, hk⟩ := hh
    exact ⟨v, hy, h _ hk⟩

theorem wpOp_of_dOp {i : Nat} {a : Act} {w : World} {K : Act → Prop} {K' : Act → World → Prop} {Q' : Exit → Act → World → Prop} (hS : S w) (h : ∀ a w, K a → S w → K' a w) (hh : dOp P ops S i K a) : wpOp P ops Q' i K' a w := by
  unfold dOp at hh
  unfold wpOp
  split
  · rename_i ho; simp only [ho] at hh; exact h _ _ hh hS
  · rename_i o ho
    simp only [ho] at hh
    obtain ⟨v, hy, hk⟩ := hh
    rcases hy with ⟨hw, hv⟩ | ⟨hw, rfl⟩
    · simp only [hw, if_true]
      refine .inl ?_
      have hu := hv w hS
      unfold Oper.wp
      generalize (execOp a.eval o).run P w = r at *
      cases r with
      | ok n w' =>
        cases n <;> simp only [yUpon] at hu <;> simp only [Oper.upon]
        case value u => obtain ⟨rfl, h2⟩ := hu; exact h _ _ hk h2
        case skip => obtain ⟨rfl, h2⟩ := hu; exact h _ _ hk h2
        case enter f args => exact hu.mono fun e w'' ⟨he, hw⟩ => by subst he; exact h _ _ hk hw
      | halt x w' => simp only [yUpon] at hu
    · simp only [hw, Bool.false_eq_true, if_false]; exact h _ _ hk hS

theorem dOp_put {j : Nat} {oi oj : Oper} {v : Value} (hj : ops[j]? = some oj) (hap : oi.apart ops oj = true)
    (hsi : ∀ cs b, oi.op ≠ .select cs b) (hsj : ∀ cs b, oj.op ≠ .select cs b) {K : Act → Prop} {a : Act}
    (hy : YieldsS P ops S oi v a) (h : dOp P ops S j K (a.put oi.dst v)) :
    dOp P ops S j (fun a' => YieldsS P ops S oi v a' ∧ K (a'.put oi.dst v)) a := by
  obtain ⟨h1, h2, h3⟩ := Oper.apart_spec hap
  unfold dOp at *
  simp only [hj] at *
  obtain ⟨u, hu, hk⟩ := h
  exact ⟨u, hu.of_same (execOp_put oj hsj a oi.dst v h1).symm (wanted_put oj a oi.dst v h1).symm, hy.of_same (execOp_put oi hsi a oj.dst u h3) (wanted_put oi a oj.dst u h3), by rw [← Act.put_comm a v u h2]; exact hk⟩

/-- In the text's order. -/
def wpDet (P : Program) (ops : Array Oper) (S : World → Prop) (Q : Act → Prop) : List Oper → Act → Prop
  | [], a => Q a
  | o :: rest, a => ∃ v, YieldsS P ops S o v a ∧ wpDet P ops S Q rest (a.put o.dst v)
theorem det_nil {Q : Act → Prop} {a : Act} (h : Q a) : wpDet P ops S Q [] a := h
/-- One step of the walk, with what follows kept out of sight. -/
theorem det_step {Q : Act → Prop} {a : Act} {o : Oper} {rest : List Oper} (h : ∀ K : Act → Prop, (∀ a, wpDet P ops S Q rest a → K a) → ∃ v, YieldsS P ops S o v a ∧ K (a.put o.dst v)) : wpDet P ops S Q (o :: rest) a :=
  h _ fun _ h => h
theorem det_no' {a : Act} {o : Oper} {K : Act → Prop} (hw : Region.wanted o (yielded ops a.tmps) = false) (h : K (a.put o.dst undef)) : ∃ v, YieldsS P ops S o v a ∧ K (a.put o.dst v) := ⟨undef, .inr ⟨hw, rfl⟩, h⟩
def wpAnyD (P : Program) (md : Region.Mode) (ops : Array Oper) (S : World → Prop) (Q : Act → Prop) : Nat → Array Bool → Act → Prop
  | 0, listed, a => Region.ready md ops listed = [] ∧ Q a
  | fuel + 1, listed, a =>
    (Region.ready md ops listed = [] → Q a) ∧
    ∀ i ∈ Region.ready md ops listed, dOp P ops S i (wpAnyD P md ops S Q fuel (listed.setIfInBounds i true)) a

theorem wpAny_of_det {Q : Act → Prop} {Q' : Exit → Act → World → Prop} (hQ : ∀ a w, Q a → S w → Q' .normal a w) : ∀ (fuel : Nat) (listed : Array Bool) (a : Act) (w : World), S w →
    wpAnyD P md ops S Q fuel listed a → wpAny P md ops Q' fuel listed a w
  | 0, _, _, _, hS, h => ⟨h.1, hQ _ _ h.2 hS⟩
  | fuel + 1, _, _, _, hS, h => ⟨fun h0 => hQ _ _ (h.1 h0) hS, fun i hi => wpOp_of_dOp hS (fun a' w' h' hS' => wpAny_of_det hQ fuel _ a' w' hS' h') (h.2 i hi)⟩

theorem YieldsS.dOp {i : Nat} {o : Oper} {v : Value} {a : Act} (hi : ops[i]? = some o) (hy : YieldsS P ops S o v a) {K : Act → Prop} (h : K (a.put o.dst v)) : dOp P ops S i K a := by
  unfold Go.Proofs.YtmlfnidckfeebaaGreatDoor.dOp
  simp only [hi]
  exact ⟨v, hy, h⟩

theorem wpAnyD_first {Q : Act → Prop} {i : Nat} {oi : Oper} {v : Value} (hi : ops[i]? = some oi) (hsel : ∀ (j : Nat) (o : Oper) cs b, ops[j]? = some o → o.op ≠ .select cs b) :
    ∀ (fuel : Nat) (listed : Array Bool) (a : Act),
      (∀ j oj, ops[j]? = some oj → j ≠ i → listed.getD j true = false → (∀ e ∈ oj.after, Region.binds md e = true → e.on ≠ i) → oi.apart ops oj = true) →
      i ∈ Region.ready md ops listed → YieldsS P ops S oi v a →
      wpAnyD P md ops S Q fuel (listed.setIfInBounds i true) (a.put oi.dst v) → wpAnyD P md ops S Q (fuel + 1) listed a := by
  intro fuel
  induction fuel with
  | zero =>
    intro listed a _ hr hy H
    refine ⟨fun h => (by rw [h] at hr; cases hr), fun j hj => ?_⟩
    by_cases hji : j = i
    · subst hji; exact hy.dOp hi H
    · have := ready_mono hj hji
      rw [H.1] at this
      cases this
  | succ fuel ih =>
    intro listed a hfree hr hy H
    refine ⟨fun h => (by rw [h] at hr; cases hr), fun j hj => ?_⟩
    by_cases hji : j = i
    · subst hji; exact hy.dOp hi H
    · have h1 := H.2 j (ready_mono hj hji)
      obtain ⟨hjun, oj, hoj, hall⟩ := mem_ready.1 hj
      have hnot : ∀ e ∈ oj.after, Region.binds md e = true → e.on ≠ i := fun e he hb heq => by
        have h1 := hall e he hb
        rw [heq, getD_both (mem_ready.1 hr).1] at h1
        cases h1
      have h2 := dOp_put hoj (hfree j oj hoj hji hjun hnot) (fun cs b => hsel i oi cs b hi) (fun cs b => hsel j oj cs b hoj) hy h1
      have hfree' : ∀ k ok, ops[k]? = some ok → k ≠ i → (listed.setIfInBounds j true).getD k true = false →
          (∀ e ∈ ok.after, Region.binds md e = true → e.on ≠ i) → oi.apart ops ok = true := fun k ok hk hki hun hno => by
        refine hfree k ok hk hki ?_ hno
        by_cases hjk : j = k
        · subst hjk; exact hjun
        · rw [getD_set_ne true hjk] at hun; exact hun
      refine dOp_mono (fun a' h3 => ih (listed.setIfInBounds j true) a' hfree' (ready_mono hr (Ne.symm hji)) h3.1 ?_) h2
      rw [Array.setIfInBounds_comm _ _ hji]
      exact h3.2

theorem wpAnyD_lex {Q : Act → Prop} (hs : Region.noSelect ops = true) : ∀ (l : List Oper) (k : Nat) (listed : Array Bool) (a : Act), (∀ j, l[j]? = ops[k + j]?) →
    Region.lexFrom md ops l.length k listed = true → wpDet P ops S Q l a → wpAnyD P md ops S Q l.length listed a
  | [], _, _, _, _, hB, h => ⟨by simpa [Region.lexFrom] using hB, h⟩
  | o :: l, k, listed, a, hl, hB, h => by
    have h0 : ops[k]? = some o := by simpa using (hl 0).symm
    simp only [List.length_cons, Region.lexFrom, Bool.and_eq_true] at hB
    obtain ⟨⟨hr, hf⟩, hB'⟩ := hB
    obtain ⟨v, hy, hK⟩ := h
    exact wpAnyD_first h0 (Region.noSelect_spec hs) l.length listed a (Region.free_spec h0 hf) (by simpa using hr) hy
      (wpAnyD_lex hs l (k + 1) _ _ (fun j => by have := hl (j + 1); simpa [Nat.add_assoc, Nat.add_comm 1 j] using this) hB' hK)

/-- A region all of whose operations tell one value in every world of the kind S. -/
theorem wp_region_det (S : World → Prop) {id : Nat} {Q : Exit → Act → World → Prop} {a : Act} {w : World} {l : List Oper} (hm : P.follows .mixedOrders = true) (hB : Region.lexB .any l.toArray = true)
    (hS : S w.drew) (h : wpDet P l.toArray S (fun a' => ∀ w', S w' → Q .normal a' w') l a) : (Code.region id l.toArray true).wp P Q a w := by
  simp only [Region.lexB, Bool.and_eq_true] at hB
  refine wp_region_any hm (wpAny_of_det (S := S) (Q := fun a' => ∀ w', S w' → Q .normal a' w') (fun a w h hS => h w hS) _ _ _ _ hS ?_)
  have := wpAnyD_lex (md := .any) hB.1 l 0 (Array.replicate l.toArray.size false) a (by simp) (by simpa using hB.2) h
  simpa using this

def wpAnyLD (P : Program) (md : Region.Mode) (ops : Array Oper) (S : World → Prop) (n : Nat) (L : Array Bool → Act → Prop) : Nat → Array Bool → Act → Prop
  | 0, listed, a => L listed a
  | f + 1, listed, a =>
    Region.ready md ops listed ≠ [] ∧ ∀ i ∈ Region.ready md ops listed, i < n ∧ dOp P ops S i (wpAnyLD P md ops S n L f (listed.setIfInBounds i true)) a
theorem wpAny_of_headD {n g : Nat} {L : Array Bool → Act → Prop} {Q' : Exit → Act → World → Prop} (hL : ∀ listed a w, L listed a → S w → wpAny P md ops Q' g listed a w) :
    ∀ (f : Nat) (listed : Array Bool) (a : Act) (w : World), S w → wpAnyLD P md ops S n L f listed a → wpAny P md ops Q' (f + g) listed a w
  | 0, listed, a, w, hS, h => by rw [Nat.zero_add]; exact hL _ _ _ h hS
  | f + 1, listed, a, w, hS, h => by
    rw [show f + 1 + g = (f + g) + 1 by omega]
    exact ⟨fun h0 => absurd h0 h.1, fun i hi => wpOp_of_dOp hS (fun a' w' h' hS' => wpAny_of_headD hL f _ a' w' hS' h') (h.2 i hi).2⟩
theorem wpAnyLD_first {n i : Nat} {oi : Oper} {v : Value} {L : Array Bool → Act → Prop} (hi : ops[i]? = some oi) (hsel : ∀ (j : Nat) (o : Oper) cs b, ops[j]? = some o → o.op ≠ .select cs b)
    (hwt : ∀ listed, HeadInv md ops n listed → ∀ i, i < n → listed.getD i true = false → ∀ t, n ≤ t → t ∉ Region.ready md ops listed) (hin : i < n)
    (hdone : ∀ listed a, L listed a → ∀ j ∈ Region.ready md ops listed, n ≤ j) :
    ∀ (f : Nat) (listed : Array Bool) (a : Act), HeadInv md ops n listed →
      (∀ j oj, ops[j]? = some oj → j ≠ i → listed.getD j true = false → (∀ e ∈ oj.after, Region.binds md e = true → e.on ≠ i) → oi.apart ops oj = true) →
      i ∈ Region.ready md ops listed → YieldsS P ops S oi v a →
      wpAnyLD P md ops S n L f (listed.setIfInBounds i true) (a.put oi.dst v) → wpAnyLD P md ops S n L (f + 1) listed a := by
  intro f
  induction f with
  | zero =>
    intro listed a inv _ hr hy H
    have hun := (mem_ready.1 hr).1
    refine ⟨fun h => (by rw [h] at hr; cases hr), fun j hj => ?_⟩
    have hjn : j < n := by
      rcases Nat.lt_or_ge j n with h | h
      · exact h
      · exact absurd hj (hwt _ inv i hin hun j h)
    refine ⟨hjn, ?_⟩
    by_cases hji : j = i
    · subst hji; exact hy.dOp hi H
    · have := hdone _ _ H j (ready_mono hj hji)
      omega
  | succ f ih =>
    intro listed a inv hfree hr hy H
    have hun := (mem_ready.1 hr).1
    refine ⟨fun h => (by rw [h] at hr; cases hr), fun j hj => ?_⟩
    have hjn : j < n := by
      rcases Nat.lt_or_ge j n with h | h
      · exact h
      · exact absurd hj (hwt _ inv i hin hun j h)
    refine ⟨hjn, ?_⟩
    by_cases hji : j = i
    · subst hji; exact hy.dOp hi H
    · have h1 := (H.2 j (ready_mono hj hji)).2
      obtain ⟨hjun, oj, hoj, hall⟩ := mem_ready.1 hj
      have hnot : ∀ e ∈ oj.after, Region.binds md e = true → e.on ≠ i := fun e he hb heq => by
        have h1 := hall e he hb
        rw [heq, getD_both hun] at h1
        cases h1
      have h2 := dOp_put hoj (hfree j oj hoj hji hjun hnot) (fun cs b => hsel i oi cs b hi) (fun cs b => hsel j oj cs b hoj) hy h1
      have hfree' : ∀ k ok, ops[k]? = some ok → k ≠ i → (listed.setIfInBounds j true).getD k true = false →
          (∀ e ∈ ok.after, Region.binds md e = true → e.on ≠ i) → oi.apart ops ok = true := fun k ok hk hki hun hno => by
        refine hfree k ok hk hki ?_ hno
        by_cases hjk : j = k
        · subst hjk; exact hjun
        · rw [getD_set_ne true hjk] at hun; exact hun
      refine dOp_mono (fun a' h3 => ih (listed.setIfInBounds j true) a' (inv.set hj hjn) hfree' (ready_mono hr (Ne.symm hji)) h3.1 ?_) h2
      rw [Array.setIfInBounds_comm _ _ hji]
      exact h3.2
/-- As the library's lexHead, with any test of what is behind. -/
def headB (md : Region.Mode) (ops : Array Oper) (B : Array Bool → Bool) : Nat → Nat → Array Bool → Bool
  | 0, _, listed => B listed
  | f + 1, k, listed => (Region.ready md ops listed).contains k && Region.free md ops listed k && headB md ops B f (k + 1) (listed.setIfInBounds k true)
theorem headB_eq (md : Region.Mode) (ops : Array Oper) (g : Nat) : ∀ (f k : Nat) (listed : Array Bool), headB md ops (Region.seqB md ops g (k + f)) f k listed = Region.lexHead md ops g f k listed
  | 0, k, listed => rfl
  | f + 1, k, listed => by
    have := headB_eq md ops g f (k + 1) (listed.setIfInBounds k true)
    rw [show k + 1 + f = k + (f + 1) by omega] at this
    simp only [headB, Region.lexHead, this]
theorem wpAnyLD_lex {n : Nat} {Lq : Act → Prop} {B : Array Bool → Bool} (hBr : ∀ listed, B listed = true → ∀ j ∈ Region.ready md ops listed, n ≤ j) (hsel : Region.noSelect ops = true)
    (hwt : ∀ listed, HeadInv md ops n listed → ∀ i, i < n → listed.getD i true = false → ∀ t, n ≤ t → t ∉ Region.ready md ops listed) :
    ∀ (l : List Oper) (k : Nat) (listed : Array Bool) (a : Act), (∀ j, j < l.length → l[j]? = ops[k + j]?) → k + l.length = n → HeadInv md ops n listed →
    headB md ops B l.length k listed = true → wpDet P ops S Lq l a →
    wpAnyLD P md ops S n (fun listed' a' => B listed' = true ∧ Lq a') l.length listed a
  | [], k, listed, a, _, hk, _, hB, h => by
    have : k = n := by simpa using hk
    subst this
    exact ⟨by simpa [headB] using hB, h⟩
  | o :: l, k, listed, a, hl, hk, inv, hB, h => by
    have h0 : ops[k]? = some o := by simpa using (hl 0 (by simp)).symm
    simp only [List.length_cons, headB, Bool.and_eq_true] at hB
    obtain ⟨⟨hr, hf⟩, hB'⟩ := hB
    have hkn : k < n := by simp only [List.length_cons] at hk; omega
    have hr' : k ∈ Region.ready md ops listed := by simpa using hr
    obtain ⟨v, hy, hK⟩ := h
    exact wpAnyLD_first h0 (Region.noSelect_spec hsel) hwt hkn (fun listed' a' hL => hBr _ hL.1) l.length listed a inv (Region.free_spec h0 hf) hr' hy
      (wpAnyLD_lex hBr hsel hwt l (k + 1) _ _ (fun j hj => by have := hl (j + 1) (by simp; omega); simpa [Nat.add_assoc, Nat.add_comm 1 j] using this) (by simp only [List.length_cons] at hk; omega) (inv.set hr' hkn) hB' hK)

/-- .. and a tail of operations that come up one behind the other. -/
theorem wp_region_det_tail (S : World → Prop) {id : Nat} {Q : Exit → Act → World → Prop} {a : Act} {w : World} {l : List Oper} (n : Nat) (hm : P.follows .mixedOrders = true) (hB : Region.lexTailB .any l.toArray n = true)
    (hS : S w.drew) (h : wpDet P l.toArray S (fun a' => ∀ w', S w' → wpList P l.toArray Q (l.drop n) a' w') (l.take n) a) : (Code.region id l.toArray true).wp P Q a w := by
  simp only [Region.lexTailB, Bool.and_eq_true, decide_eq_true_eq] at hB
  obtain ⟨⟨⟨⟨hsel, hn⟩, hs⟩, hc⟩, hlex⟩ := hB
  have hn' : n < l.length := by simpa using hn
  have htl : (l.take n).length = n := by simp; omega
  have hdl : (l.drop n).length = l.toArray.size - n := by simp
  have inv0 : HeadInv .any l.toArray n (Array.replicate l.toArray.size false) :=
    ⟨by simp, fun j oj _ hl => (by rw [getD_replicate_false] at hl; cases hl), fun t _ ht => getD_in (by simpa using ht) (getD_replicate_false _ _)⟩
  have H := wpAnyLD_lex (S := S) (md := .any) (B := Region.seqB .any l.toArray (l.toArray.size - n) n) (fun listed h => seqB_ready h) hsel (fun listed inv i hi hun t ht => tail_waits hs hc hn inv _ i rfl hi hun t ht) (l.take n) 0 _ a (fun j hj => by
    have hj' : j < n := by rw [htl] at hj; exact hj
    simp [hj']) (by simpa using htl) inv0 (by rw [htl]; have := headB_eq .any l.toArray (l.toArray.size - n) n 0 (Array.replicate l.toArray.size false); rw [Nat.zero_add] at this; rw [this]; exact hlex) h
  refine wp_region_any hm ?_
  have := wpAny_of_headD (S := S) (Q' := Q) (g := l.toArray.size - n) (fun listed a' w' hL hS' => by
    have := wpAny_of_seq (md := .any) (Q' := Q) (l.drop n) n listed a' w' (fun j => by simp [List.getElem?_drop]) (by rw [hdl]; exact hL.1) (hL.2 w' hS')
    rwa [hdl] at this) _ _ _ _ hS H
  rw [htl, show n + (l.toArray.size - n) = l.toArray.size by omega] at this
  exact this
/-- Each behind the n-th waits for the n-th, or for one between. -/
def behindB (md : Region.Mode) (ops : Array Oper) (n : Nat) : Bool :=
  (List.range ops.size).all fun t => decide (t ≤ n) || (List.range ops.size).any fun j => decide (n ≤ j) && Region.waitsFor md ops t j
/-- It ends as it should, and in no other way. -/
def goesOn (Q : Exit → Act → World → Prop) (e : Exit) (a : Act) (w : World) : Prop := e = .normal ∧ Q .normal a w
end
end Go.Proofs.YtmlfnidckfeebaaGreatDoor
