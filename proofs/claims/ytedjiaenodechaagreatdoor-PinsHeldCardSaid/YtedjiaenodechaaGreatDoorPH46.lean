/- Walks: pins: those of a list of which something is so. Walks: pins: those that are old go; room for one more. Walks: pins: the place of a tree that is of use. -/
import Derived.Test.YtedjiaenodechaaGreatDoorPH43
import Derived.Test.YtedjiaenodechaaGreatDoorPH45
import Derived.Deep.DeepCutAuto
namespace Go.Proofs.YtedjiaenodechaaGreatDoor
open Go.RowKit Go.Shelf
attribute [local go_sem] yUpon strOf_toList
/-- A pin: the tree's pointer, what it is, when it was last of use. -/
abbrev Pin := Option Addr × Option Sp.T × Int
def pinV (x : Pin) : Value := .agg #[.pointer x.1, .int .i64 x.2.2]
def pinsC : List Pin → List Value
  | [] => []
  | x :: r => .pointer x.1 :: .int .i64 x.2.2 :: pinsC r
theorem pinsC_len (l : List Pin) : (pinsC l).length = l.length * 2 := by
  induction l with
  | nil => rfl
  | cons x r ih => simp [pinsC, ih]; omega
theorem pinsC_snoc (l : List Pin) (x : Pin) : pinsC (l ++ [x]) = pinsC l ++ [.pointer x.1, .int .i64 x.2.2] := by
  induction l with
  | nil => rfl
  | cons y r ih => simp [pinsC, ih]
theorem pinsC_get : ∀ (l : List Pin) (k : Nat) (h : k < l.length), (pinsC l)[k * 2]? = some (.pointer l[k].1) ∧ (pinsC l)[k * 2 + 1]? = some (.int .i64 l[k].2.2)
  | x :: r, 0, _ => ⟨rfl, rfl⟩
  | x :: r, k + 1, h => by
    have := pinsC_get r k (by simpa using h)
    simp only [pinsC, show (k + 1) * 2 = k * 2 + 1 + 1 by omega, List.getElem?_cons_succ, List.getElem_cons_succ]
    exact this
theorem pins_at {w : World} {A : Option Addr} {l : List Pin} (h : Cells w A (pinsC l)) (hn : 0 < l.length) : ∃ g o, A = some ⟨g, o, none⟩ ∧ ∀ k (h : k < l.length), w.cell? ⟨g, o + k * 2, none⟩ = some (.pointer l[k].1) ∧ w.cell? ⟨g, o + k * 2 + 1, none⟩ = some (.int .i64 l[k].2.2) := by
  obtain ⟨g, o, hA, hc⟩ := h (by intro e; have := pinsC_len l; rw [e] at this; simp at this; omega)
  exact ⟨g, o, hA, fun k hk => ⟨hc _ _ (pinsC_get l k hk).1, by rw [Nat.add_assoc]; exact hc _ _ (pinsC_get l k hk).2⟩⟩
theorem appPin : AppStat Tryz.prog 60 101 2 16 := by
  refine ⟨Tryz.underlying60, by decide, by decide, ?_⟩
  obtain ⟨i0, hi, hz0, hz1, hz2⟩ := info_parts (show (Tryz.prog.info? 101).map (fun i => (i.zero, i.size, i.bytes)) = some (some (.agg #[.pointer none, .int .i64 0]), 2, 16) by kernel_rfl)
  exact ⟨i0, _, hi, hz0, hz1, hz2, rfl⟩
/-- Those of the first so many of which something is so. -/
def selN (p : Nat → Bool) (l : List Pin) (k : Nat) : List Pin := (List.range k).filterMap fun i => if p i then l[i]? else none
theorem selN_succ (p : Nat → Bool) (l : List Pin) (k : Nat) (h : k < l.length) : selN p l (k + 1) = selN p l k ++ if p k then [l[k]] else [] := by
  unfold selN
  rw [List.range_succ, List.filterMap_append]
  cases hp : p k <;> simp [hp, h]
theorem selN_len (p : Nat → Bool) (l : List Pin) (k : Nat) : (selN p l k).length ≤ k := by
  have := List.length_filterMap_le (fun i => if p i then l[i]? else none) (List.range k)
  rwa [List.length_range] at this
def hasP (q : Pin → Bool) (l : List Pin) (i : Nat) : Bool := (l[i]?.map q).getD false
theorem selN_filter (q : Pin → Bool) (l : List Pin) : ∀ k, k ≤ l.length → selN (hasP q l) l k = (l.take k).filter q
  | 0, _ => rfl
  | k + 1, h => by
    have hk : k < l.length := h
    rw [selN_succ _ _ _ hk, selN_filter q l k (by omega), List.take_succ_eq_append_getElem hk, List.filter_append]
    congr 1
    simp only [hasP, List.getElem?_eq_getElem hk, Option.map_some, Option.getD_some]
    cases hq : q l[k] <;> simp [hq]
theorem clamp_calls (n : Int) (w : World) : Calls Tryz.prog 48 #[.int .i64 n] w fun e w' => e = .returned (.int .i64 (max 0 (min n 1099511627776))) ∧ w = w' := by
  go_enter Tryz.func48, Tryz.ntmps48
  go_wp2
  go_ret
  exact ⟨rfl, rfl⟩
abbrev intT : TypeId → Prop := fun t => t = 3
set_option maxRecDepth 100000 in
set_option maxHeartbeats 4000000 in
theorem some_calls (l : List Pin) (A : Option Addr) (cap : Nat) (f : FuncId) (bs : Array Value) (p : Nat → Bool) (J : Nat → World → Prop) (w : World) (hl : l.length ≤ 1000000) (eg : ∀ args w, (callFunc f args).run Tryz.prog w = .ok (.enter f args) w)
    (hJ : ∀ k W W', J k W → Below w.heap.size W W' → J k W') (hs : ∀ k W, J k W → Cells W A (pinsC l)) (hB : ∀ k W, J k W → w.heap.size ≤ W.heap.size)
    (hf : ∀ k (h : k < l.length) W, J k W → Calls Tryz.prog f (#[pinV l[k]] ++ bs) W fun e W' => e = .returned (.bool (p k)) ∧ J (k + 1) W' ∧ KB intT 0 W W') (h0 : J 0 w) :
    Calls Tryz.prog 74 #[.slice A l.length cap, .func (.func f) #[] bs] w fun e w' => ∃ v, e = .returned v ∧ w'.ownsRow w.heap.size 101 2 v (selN p l l.length).length (pinsC (selN p l l.length)) ∧ J l.length w' := by
  have HJ := Lib.hid hJ
  have HS := Lib.hid hs
  have HB := Lib.hid hB
  have HF := Lib.hid hf
  have H0 := Lib.hid h0
  clear hJ hs hB hf h0
  go_enter Tryz.func74, Tryz.ntmps74
  go_wp2
  go_loopw [5, 10] (fun v5 v10 wr => ∃ k : Nat, k ≤ l.length ∧ v10 = .int .i64 k ∧ wr.ownsRow w.heap.size 101 2 v5 (selN p l k).length (pinsC (selN p l k)) ∧ J k wr) (fun _ v10 _ => l.length - (intOf v10).toNat)
  case atStart => exact ⟨0, Nat.zero_le _, rfl, World.ownsRow_nil _ _ _ _, H0.out⟩
  case round =>
    obtain ⟨k, hk, rfl, hO, hj⟩ := hrel
    by_cases hlt : k < l.length
    · obtain ⟨g, o, rfl, hc⟩ := pins_at (HS.out k wr hj) (by omega)
      obtain ⟨c0, c1⟩ := hc k hlt
      have st := selN_succ p l k hlt
      have sl := selN_len p l k
      have CF := Lib.hid fun W (h : J k W) => HF.out k hlt W h
      obtain ⟨x, hx⟩ : ∃ x, x = l[k] := ⟨_, rfl⟩
      rw [← hx] at c0 c1 st CF
      obtain ⟨x1, x2, x3⟩ := x
      simp only at c0 c1
      obtain ⟨s, hsl⟩ : ∃ s, s = selN p l k := ⟨_, rfl⟩
      rw [← hsl] at hO st sl
      have O := Lib.hid hO
      have JJ := Lib.hid hj
      have ST := Lib.hid st
      have b1 : (k : Int) < (l.length : Int) := by omega
      obtain ⟨q, hq⟩ : ∃ q, q = p k := ⟨_, rfl⟩
      rw [← hq] at st CF
      have ST := Lib.hid st
      clear hO hj hc hx hsl st hq
      go_wp2_with fail
      refine (CF.out _ (HJ.out _ _ _ JJ.out ((Ext.alloc wr (.cells #[.pointer x1, .int .i64 x3] 101)).mono (HB.out _ _ JJ.out)))).mono ?_
      rintro e w2 ⟨rfl, hj2, hk2⟩
      have X2 := Lib.hid (show isBlk w2 wr.heap.size 101 #[.pointer x1, .int .i64 x3] from hk2.row _ _ _ _ (box_at wr _ _) (by intro h; cases h))
      have O2 := Lib.hid (own_keep (T := intT) (by intro h; cases h) (own_ext O.out (Ext.alloc wr (.cells #[.pointer x1, .int .i64 x3] 101))) hk2)
      have J2 := Lib.hid hj2
      clear hj2 hk2 c0 c1
      cases q with
      | false =>
        have ST2 := Lib.hid (show selN p l (k + 1) = s by rw [ST.out]; simp)
        go_wp2
        go_roundw
        case rel => exact ⟨k + 1, by omega, by go_num, by rw [ST2.out]; exact O2.out, J2.out⟩
        case measure => simp [intOf]; omega
      | true =>
        have ST2 := Lib.hid (show selN p l (k + 1) = s ++ [(x1, x2, x3)] by rw [ST.out]; simp)
        have k0 := (X2.out.cell 0).trans rfl
        have k1 := (X2.out.cell 1).trans rfl
        go_wp2_with (at_builtin; refine app_new appPin rfl _ _ rfl w.heap.size _ s.length _ rfl O2.out #[.pointer x1, .int .i64 x3] 101 1 rfl rfl (by intro u hu; simp at hu; rcases hu with rfl | rfl <;> rfl) (by decide) (by omega) (HB.out _ _ J2.out) ?_; intro g6 cap6 w6 hown6 hgr6 hb6 hbg6; have O6 := Lib.hid hown6; have B6 := Lib.hid hb6; have G6 := Lib.hid hgr6; clear hown6 hgr6 hb6 hbg6)
        refine ⟨⟨k + 1, by omega, by go_num, ?_, HJ.out _ _ _ J2.out B6.out⟩, by simp [intOf]; omega⟩
        rw [ST2.out, pinsC_snoc, List.length_append]
        exact O6.out
    · obtain rfl : k = l.length := by omega
      have O := Lib.hid hO
      have JJ := Lib.hid hj
      clear hO hj
      go_wp2
      go_ret
      exact ⟨_, rfl, O.out, JJ.out⟩
end Go.Proofs.YtedjiaenodechaaGreatDoor
namespace Go.Proofs.YtedjiaenodechaaGreatDoor
open Go.RowKit Go.Shelf
attribute [local go_sem] yUpon strOf_toList pinV
/-- A time that may be. -/
abbrev Tm (n : Int) : Prop := 0 ≤ n ∧ n ≤ 1099511627776
set_option maxRecDepth 100000 in
set_option maxHeartbeats 1000000 in
theorem old1_calls (x : Pin) (now : Int) (gb : Nat) (w : World) (hb : isBlk w gb 3 #[.int .i64 now]) (hn : Tm now) (hx : Tm x.2.2) :
    Calls Tryz.prog 75 #[pinV x, .pointer (some ⟨gb, 0, none⟩)] w fun e w' => e = .returned (.bool (decide (now - x.2.2 < 100))) ∧ Ext w w' := by
  obtain ⟨x1, x2, x3⟩ := x
  obtain ⟨h1, h2⟩ := hn
  obtain ⟨h3, h4⟩ := hx
  simp only at h3 h4
  have c0 := ((hb.alloc (.cells #[.pointer x1, .int .i64 x3] 101)).cell 0).trans rfl
  have w1 : IntKind.i64.wrap (now - x3) = now - x3 := IntWalk.i64_in _ (by omega)
  go_enter Tryz.func75, Tryz.ntmps75
  go_wp2
  go_ret
  exact ⟨rfl, Ext.alloc _ _⟩
def oldS (now : Int) (ps : List Pin) : List Pin := ps.filter fun x => decide (now - x.2.2 < 100)
set_option maxRecDepth 100000 in
set_option maxHeartbeats 4000000 in
theorem old_calls (g : Nat) (now : Int) (ps : List Pin) (v : Value) (w : World) (hx : isBlk w g 62 #[v]) (ho : w.ownsRow 0 101 2 v ps.length (pinsC ps)) (hl : ps.length ≤ 1000) (hn : Tm now) (hp : ∀ x ∈ ps, Tm x.2.2) :
    Calls Tryz.prog 49 #[.pointer (some ⟨g, 0, none⟩), .int .i64 now] w fun e w' => e = .returned (.tuple #[]) ∧ ∃ v', isBlk w' g 62 #[v'] ∧ w'.ownsRow w.heap.size 101 2 v' (oldS now ps).length (pinsC (oldS now ps)) ∧ Only g w w' := by
  obtain ⟨A, cap, rfl, hc⟩ := own_read ho
  obtain ⟨w1, hw1⟩ : ∃ w1, w1 = w.alloc (.cells #[.int .i64 now] 3) := ⟨_, rfl⟩
  have X1 := Lib.hid (show isBlk w1 g 62 #[.slice A ps.length cap] by rw [hw1]; exact hx.alloc _)
  have N1 := Lib.hid (show isBlk w1 w.heap.size 3 #[.int .i64 now] by rw [hw1]; exact box_at w _ _)
  have C1 := Lib.hid (show Cells w1 A (pinsC ps) by rw [hw1]; exact hc.ext (Ext.alloc _ _))
  have E1 := Lib.hid (show Ext w w1 by rw [hw1]; exact Ext.alloc _ _)
  have SC := Lib.hid (some_calls ps A cap 75 #[.pointer (some ⟨w.heap.size, 0, none⟩)] (hasP (fun x => decide (now - x.2.2 < 100)) ps) (fun _ W => Ext w1 W) w1 (by omega) (enters_of Tryz.func75 (by kernel_rfl) rfl)
    (fun k W W' h e => Below.trans h e) (fun k W h => C1.out.ext h) (fun k W h => h.size) (fun k hk W h => by
      refine (old1_calls ps[k] now w.heap.size W (N1.out.below h) hn (hp _ (List.getElem_mem hk))).mono ?_
      rintro e w' ⟨rfl, hb⟩
      refine ⟨?_, h.trans hb, KB.ext (Nat.zero_le _) hb⟩
      simp only [hasP, List.getElem?_eq_getElem hk, Option.map_some, Option.getD_some]) (Ext.refl _))
  rw [selN_filter (fun x => decide (now - x.2.2 < 100)) ps ps.length (Nat.le_refl _), List.take_length] at SC
  have f0 := (hx.cell 0).trans rfl
  have f1 : (w.alloc (.cells #[.int .i64 now] 3)).cell? ⟨g, 0, none⟩ = some (.slice A ps.length cap) := by rw [← hw1]; exact (X1.out.cell 0).trans rfl
  have HW := Lib.hid hw1
  have GG := Lib.hid hx.lt
  clear hx ho hc hp hn f0 hw1
  go_enter Tryz.func49, Tryz.ntmps49
  go_wp2_with fail
  rw [← HW.out]
  refine SC.out.mono ?_
  rintro e w2 ⟨v2, rfl, hO2, hj2⟩
  obtain ⟨A2, c2, rfl, _⟩ := own_read hO2
  have X2 := Lib.hid (X1.out.below hj2)
  have E2 := Lib.hid (E1.out.trans hj2)
  have O2 := Lib.hid (own_lowT hO2 E1.out.size)
  have k0 := X2.out.frozen 0
  have k1 := (X2.out.cell 0).trans rfl
  clear hO2 hj2 f1
  go_wp2_with fail
  go_end0
  refine ⟨rfl, _, X2.out.put 0 _ rfl, ?_, (Only.of_below g E2.out).trans (Only.set _ _ _ _)⟩
  refine own_far O2.out (fun e => ?_) _
  cases hA : A2 with
  | none => rw [hA] at e; cases e
  | some a =>
    rw [hA] at e
    have e3 : a.block = g := Option.some.inj e
    have := own_off O2.out a hA
    have := GG.out
    omega
end Go.Proofs.YtedjiaenodechaaGreatDoor
namespace Go.Proofs.YtedjiaenodechaaGreatDoor
open Go.RowKit Go.Shelf
attribute [local go_sem] yUpon strOf_toList
theorem dig_eqv (x y : Sp.Bs) (h : x.length = 32) (h' : y.length = 32) (w : World) : (Op.equalIn 10000 41 (.agg (digC x)) (.agg (digC y))).run Tryz.prog w = .ok (x == y) w :=
  run_equalIn_bytes (P := Tryz.prog) w 9998 41 5 32 Tryz.underlying41 Tryz.underlying5 (fun w => Tryz.sizeOf5 w) x y h h'
/-- A pin's digest. -/
def dgP (x : Pin) : Sp.Bs := Sp.nsum (Sp.nodeT (x.2.1.getD .nil))
def useK (d : Sp.Bs) (ps : List Pin) : Option Nat := ps.findIdx? fun x => dgP x == d
def useI (d : Sp.Bs) (ps : List Pin) : Int := match useK d ps with | some k => k | none => -1
def touch (now : Int) (x : Pin) : Pin := (x.1, x.2.1, now)
def useP (d : Sp.Bs) (now : Int) (ps : List Pin) : List Pin := match useK d ps with | some k => ps.modify k (touch now) | none => ps
theorem pinsC_mod (now : Int) : ∀ (l : List Pin) (k : Nat), k < l.length → (pinsC l).set (k * 2 + 1) (.int .i64 now) = pinsC (l.modify k (touch now))
  | x :: r, 0, _ => rfl
  | x :: r, k + 1, h => by
    have ih := pinsC_mod now r k (by simpa using h)
    rw [pinsC, show (k + 1) * 2 + 1 = k * 2 + 1 + 1 + 1 by omega, List.set_cons_succ, List.set_cons_succ, ih]
    rfl
theorem useK_some {d : Sp.Bs} {ps : List Pin} {k : Nat} (h : k < ps.length) (h1 : dgP ps[k] = d) (h2 : ∀ i (hi : i < ps.length), i < k → dgP ps[i] ≠ d) : useK d ps = some k := by
  unfold useK
  rw [List.findIdx?_eq_some_iff_getElem]
  exact ⟨h, by simpa using h1, fun j hj => by simpa using h2 j (by omega) hj⟩
theorem useK_none {d : Sp.Bs} {ps : List Pin} (h2 : ∀ i (hi : i < ps.length), dgP ps[i] ≠ d) : useK d ps = none := by
  unfold useK
  rw [List.findIdx?_eq_none_iff]
  intro x hx
  obtain ⟨i, hi, rfl⟩ := List.getElem_of_mem hx
  simpa using h2 i hi
set_option maxRecDepth 100000 in
set_option maxHeartbeats 4000000 in
theorem use_calls (g B : Nat) (d : Sp.Bs) (hd : d.length = 32) (now : Int) (ps : List Pin) (v : Value) (w : World) (hx : isBlk w g 62 #[v]) (ho : w.ownsRow B 101 2 v ps.length (pinsC ps)) (hBw : B ≤ w.heap.size) (hl : ps.length ≤ 1000)
    (ht : ∀ x ∈ ps, TreeAt w (.pointer x.1) x.2.1) (K : KeysAt w 2) :
    Calls Tryz.prog 50 #[.pointer (some ⟨g, 0, none⟩), digV d, .int .i64 now] w fun e w' => e = .returned (.int .i64 (useI d ps)) ∧ w'.ownsRow B 101 2 v ps.length (pinsC (useP d now ps)) ∧ Below B w w' := by
  have HX := Lib.hid hx
  have HO := Lib.hid ho
  have HT := Lib.hid ht
  have KK := Lib.hid K
  have tok1 : True := trivial
  obtain ⟨A, cap, rfl, _⟩ := own_read ho
  have f0 := (hx.cell 0).trans rfl
  have DC := Lib.hid (digC_size d)
  clear hx ho ht K
  go_enter Tryz.func50, Tryz.ntmps50
  go_wp2_with (have _t := tok1; ((with_reducible refine at_box (t := 41) rfl ?_); refine box_new rfl (cs := digC d) (t := 41) (by first | (go_simp; done) | (go_simp; rfl)) ?_; intro g2 w2 hg2 hx2 hb2; have X2 := Lib.hid hx2; have B2 := Lib.hid (show Ext w w2 from hb2); have Y2 := Lib.hid (HX.out.below hb2); have f2 := ((HX.out.below hb2).cell 0).trans rfl; clear tok1 _t hx2 hb2 hg2))
  have RG := Lib.hid (show ∀ W, Ext w2 W → W.rangeAt g2 0 (d.map byteV) from fun W e j u hj => by
    rw [Nat.zero_add, (X2.out.below e).cell j]
    simpa [digC] using hj)
  have DL := Lib.hid (show (d.map byteV).length = 32 by rw [List.length_map, hd])
  have DM := Lib.hid (show (d.map byteV).toArray = digC d from rfl)
  go_loopw [13] (fun v13 wr => ∃ k : Nat, k ≤ ps.length ∧ v13 = .int .i64 k ∧ (∀ i (h : i < ps.length), i < k → dgP ps[i] ≠ d) ∧ Ext w2 wr) (fun v13 _ => ps.length - (intOf v13).toNat)
  case atStart => exact ⟨0, Nat.zero_le _, rfl, fun i _ h => absurd h (Nat.not_lt_zero i), Ext.refl _⟩
  case round =>
    obtain ⟨k, hk, rfl, hne, hb⟩ := hrel
    by_cases hlt : k < ps.length
    · obtain ⟨a, c3, e3, hBa⟩ := owned_form HO.out (by omega)
      cases e3
      have OW := Lib.hid (own_ext HO.out (B2.out.trans hb))
      obtain ⟨c0, _⟩ := own_isBlk OW.out (k * 2) _ (pinsC_get ps k hlt).1
      obtain ⟨c1, f1, _, _⟩ := own_isBlk OW.out (k * 2 + 1) _ (pinsC_get ps k hlt).2
      have TX := Lib.hid (HT.out _ (List.getElem_mem hlt))
      have NE := Lib.hid hne
      have UK := Lib.hid (show dgP ps[k] = d → useK d ps = some k from fun h => useK_some hlt h hne)
      have PM := Lib.hid (pinsC_mod now ps k hlt)
      obtain ⟨x, hxk⟩ : ∃ x, x = ps[k] := ⟨_, rfl⟩
      rw [← hxk] at c0 c1 TX UK
      have C0 := Lib.hid c0
      have XK := Lib.hid hxk
      have TR := Lib.hid fun W (e : Ext wr W) => troot_calls x.2.1 (.pointer x.1) W (TX.out.ext ((B2.out.trans hb).trans e)) (KK.out.ext ((B2.out.trans hb).trans e))
      rw [show Sp.nsum (Sp.nodeT (x.2.1.getD .nil)) = dgP x from rfl] at TR
      obtain ⟨dx, hdx⟩ : ∃ dx, dx = dgP x := ⟨_, rfl⟩
      rw [← hdx] at TR UK
      have hq := fun W => dig_eqv dx d (by rw [hdx]; exact Sp.nsum_len _) hd W
      have hg := dig_guard
      have HB := Lib.hid hb
      have Y3 := Lib.hid (Y2.out.below hb)
      have NK := Lib.hid (show dx ≠ d → ∀ i (h : i < ps.length), i < k + 1 → dgP ps[i] ≠ d from fun hh i h1 h2 => by
        by_cases hik : i = k
        · subst hik
          rw [← XK.out, ← hdx]; exact hh
        · exact NE.out i h1 (by omega))
      have b1 : (k : Int) < (ps.length : Int) := by omega
      clear hne hxk hdx hb c0 c1 f1
      go_wp2_with fail
      refine wp_region_det (fun W => Ext wr W) (by kernel_rfl) (by kernel_rfl) (Ext.refl wr).drew ?_
      repeat (first
        | (refine det_step (fun K hK => ?_); (refine det_load_mid rfl 41 (.tmp 4) rfl g2 0 rfl (d.map byteV) _ (fun W hS => RG.out W (HB.out.trans hS)) Tryz.underlying41 rfl (by rw [DL.out]; kernel_rfl) ?_; rw [DM.out]); go_simp; refine hK _ ?_; clear hK K)
        | (refine det_step (fun K hK => ?_)
           apply Exists.intro
           refine ⟨Or.inl ⟨rfl, fun W hS => ?_⟩, ?_⟩
           · replace hS : Ext wr W := hS; have z0 := ((Y3.out.below hS).cell 0).trans rfl; have z1 := hS.cell C0.out
             go_simp
             first
             | exact rfl
             | exact ⟨rfl, hS⟩
             | ((refine (TR.out W hS).mono ?_; rintro e w9 ⟨rfl, hb9⟩; exact ⟨rfl, hS.trans hb9⟩))
           go_simp
           refine hK _ ?_
           clear hK K)
        | (refine det_step (fun K hK => ?_); refine det_no' rfl ?_; go_simp; refine hK _ ?_; clear hK K))
      refine det_nil ?_
      intro W9 hS
      replace hS : Ext wr W9 := hS
      have E9 := Lib.hid (HB.out.trans hS)
      have O9 := Lib.hid (own_ext OW.out hS)
      have Y9 := Lib.hid (Y3.out.below hS)
      clear hS
      have z0 := (Y9.out.cell 0).trans rfl
      obtain ⟨c1, f1, _, _⟩ := own_isBlk O9.out (k * 2 + 1) _ (pinsC_get ps k hlt).2
      go_wp2_with fail
      · rename_i hdd
        have UK2 := Lib.hid (UK.out (by simpa using hdd))
        go_ret
        refine ⟨by rw [useI, UK2.out]; rfl, ?_, ?_⟩
        · rw [useP, UK2.out]
          simp only
          rw [← PM.out]
          exact own_set O9.out (k * 2 + 1) (by rw [pinsC_len]; omega) _
        · exact Below.trans ((B2.out.trans E9.out).mono hBw) ((Below.refl _ _).setCell hBa _)
      · rename_i hdd
        have NK2 := Lib.hid (NK.out (by simpa using hdd))
        go_roundw
        case rel => exact ⟨k + 1, by omega, by go_num, NK2.out, E9.out⟩
        case measure => simp [intOf]; omega
    · obtain rfl : k = ps.length := by omega
      have UN := Lib.hid (useK_none (fun i h => hne i h h))
      clear hne
      go_wp2
      go_ret
      exact ⟨by rw [useI, UN.out]; rfl, by rw [useP, UN.out]; exact own_ext HO.out (B2.out.trans hb), (B2.out.trans hb).mono hBw⟩
end Go.Proofs.YtedjiaenodechaaGreatDoor
