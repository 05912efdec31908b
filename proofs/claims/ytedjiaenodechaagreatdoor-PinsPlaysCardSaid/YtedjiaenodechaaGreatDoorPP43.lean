/- Walks: pins: those that are old go; room for one more. Walks: pins: the place of a tree that is of use. Walks: pins: room for one more. -/
import Derived.Test.YtedjiaenodechaaGreatDoorPP42
namespace Go.Proofs.YtedjiaenodechaaGreatDoor
open Go.RowKit Go.Shelf
attribute [local go_sem] yUpon strOf_toList pinV
/-- A time that may be. -/
abbrev Tm (n : Int) : Prop := 0 ≤ n ∧ n ≤ 1099511627776
set_option maxRecDepth 100000 in
set_option maxHeartbeats 1000000 in
theorem old1_calls (x : Pin) (now : Int) (gb : Nat) (w : World) (hb : isBlk w gb 3 #[.int .i64 now]) (hn : Tm now) (hx : Tm x.2.2) :
    Calls Tryz.prog 75 #[pinV x, .pointer (some ⟨gb, 0, none⟩)] w fun e w' => e = .returned (.bool (decide (now - x.2.2 < 100))) ∧ Ext w w' := by
  obtain ⟨x1, x2, x3⟩ := x
  obtain ⟨h1, h2⟩ := hn
  obtain ⟨h3, h4⟩ := hx
  simp only at h3 h4
  have c0 := ((hb.alloc (.cells #[.pointer x1, .int .i64 x3] 101)).cell 0).trans rfl
  have w1 : IntKind.i64.wrap (now - x3) = now - x3 := IntWalk.i64_in _ (by omega)
  go_enter Tryz.func75, Tryz.ntmps75
  go_wp2
  go_ret
  exact ⟨rfl, Ext.alloc _ _⟩
def oldS (now : Int) (ps : List Pin) : List Pin := ps.filter fun x => decide (now - x.2.2 < 100)
set_option maxRecDepth 100000 in
set_option maxHeartbeats 4000000 in
theorem old_calls (g : Nat) (now : Int) (ps : List Pin) (v : Value) (w : World) (hx : isBlk w g 62 #[v]) (ho : w.ownsRow 0 101 2 v ps.length (pinsC ps)) (hl : ps.length ≤ 1000) (hn : Tm now) (hp : ∀ x ∈ ps, Tm x.2.2) :
    Calls Tryz.prog 49 #[.pointer (some ⟨g, 0, none⟩), .int .i64 now] w fun e w' => e = .returned (.tuple #[]) ∧ ∃ v', isBlk w' g 62 #[v'] ∧ w'.ownsRow w.heap.size 101 2 v' (oldS now ps).length (pinsC (oldS now ps)) ∧ Only g w w' := by
  obtain ⟨A, cap, rfl, hc⟩ := own_read ho
  obtain ⟨w1, hw1⟩ : ∃ w1, w1 = w.alloc (.cells #[.int .i64 now] 3) := ⟨_, rfl⟩
  have X1 := Lib.hid (show isBlk w1 g 62 #[.slice A ps.length cap] by rw [hw1]; exact hx.alloc _)
  have N1 := Lib.hid (show isBlk w1 w.heap.size 3 #[.int .i64 now] by rw [hw1]; exact box_at w _ _)
  have C1 := Lib.hid (show Cells w1 A (pinsC ps) by rw [hw1]; exact hc.ext (Ext.alloc _ _))
  have E1 := Lib.hid (show Ext w w1 by rw [hw1]; exact Ext.alloc _ _)
  have SC := Lib.hid (some_calls ps A cap 75 #[.pointer (some ⟨w.heap.size, 0, none⟩)] (hasP (fun x => decide (now - x.2.2 < 100)) ps) (fun _ W => Ext w1 W) w1 (by omega) (enters_of Tryz.func75 (by kernel_rfl) rfl)
    (fun k W W' h e => Below.trans h e) (fun k W h => C1.out.ext h) (fun k W h => h.size) (fun k hk W h => by
      refine (old1_calls ps[k] now w.heap.size W (N1.out.below h) hn (hp _ (List.getElem_mem hk))).mono ?_
      rintro e w' ⟨rfl, hb⟩
      refine ⟨?_, h.trans hb, KB.ext (Nat.zero_le _) hb⟩
      simp only [hasP, List.getElem?_eq_getElem hk, Option.map_some, Option.getD_some]) (Ext.refl _))
  rw [selN_filter (fun x => decide (now - x.2.2 < 100)) ps ps.length (Nat.le_refl _), List.take_length] at SC
  have f0 := (hx.cell 0).trans rfl
  have f1 : (w.alloc (.cells #[.int .i64 now] 3)).cell? ⟨g, 0, none⟩ = some (.slice A ps.length cap) := by rw [← hw1]; exact (X1.out.cell 0).trans rfl
  have HW := Lib.hid hw1
  have GG := Lib.hid hx.lt
  clear hx ho hc hp hn f0 hw1
  go_enter Tryz.func49, Tryz.ntmps49
  go_wp2_with fail
  rw [← HW.out]
  refine SC.out.mono ?_
  rintro e w2 ⟨v2, rfl, hO2, hj2⟩
  obtain ⟨A2, c2, rfl, _⟩ := own_read hO2
  have X2 := Lib.hid (X1.out.below hj2)
  have E2 := Lib.hid (E1.out.trans hj2)
  have O2 := Lib.hid (own_lowT hO2 E1.out.size)
  have k0 := X2.out.frozen 0
  have k1 := (X2.out.cell 0).trans rfl
  clear hO2 hj2 f1
  go_wp2_with fail
  go_end0
  refine ⟨rfl, _, X2.out.put 0 _ rfl, ?_, (Only.of_below g E2.out).trans (Only.set _ _ _ _)⟩
  refine own_far O2.out (fun e => ?_) _
  cases hA : A2 with
  | none => rw [hA] at e; cases e
  | some a =>
    rw [hA] at e
    have e3 : a.block = g := Option.some.inj e
    have := own_off O2.out a hA
    have := GG.out
    omega
end Go.Proofs.YtedjiaenodechaaGreatDoor
namespace Go.Proofs.YtedjiaenodechaaGreatDoor
open Go.RowKit Go.Shelf
attribute [local go_sem] yUpon strOf_toList
theorem dig_eqv (x y : Sp.Bs) (h : x.length = 32) (h' : y.length = 32) (w : World) : (Op.equalIn 10000 41 (.agg (digC x)) (.agg (digC y))).run Tryz.prog w = .ok (x == y) w :=
  run_equalIn_bytes (P := Tryz.prog) w 9998 41 5 32 Tryz.underlying41 Tryz.underlying5 (fun w => Tryz.sizeOf5 w) x y h h'
/-- A pin's digest. -/
def dgP (x : Pin) : Sp.Bs := Sp.nsum (Sp.nodeT (x.2.1.getD .nil))
def useK (d : Sp.Bs) (ps : List Pin) : Option Nat := ps.findIdx? fun x => dgP x == d
def useI (d : Sp.Bs) (ps : List Pin) : Int := match useK d ps with | some k => k | none => -1
def touch (now : Int) (x : Pin) : Pin := (x.1, x.2.1, now)
def useP (d : Sp.Bs) (now : Int) (ps : List Pin) : List Pin := match useK d ps with | some k => ps.modify k (touch now) | none => ps
theorem pinsC_mod (now : Int) : ∀ (l : List Pin) (k : Nat), k < l.length → (pinsC l).set (k * 2 + 1) (.int .i64 now) = pinsC (l.modify k (touch now))
  | x :: r, 0, _ => rfl
  | x :: r, k + 1, h => by
    have ih := pinsC_mod now r k (by simpa using h)
    rw [pinsC, show (k + 1) * 2 + 1 = k * 2 + 1 + 1 + 1 by omega, List.set_cons_succ, List.set_cons_succ, ih]
    rfl
theorem useK_some {d : Sp.Bs} {ps : List Pin} {k : Nat} (h : k < ps.length) (h1 : dgP ps[k] = d) (h2 : ∀ i (hi : i < ps.length), i < k → dgP ps[i] ≠ d) : useK d ps = some k := by
  unfold useK
  rw [List.findIdx?_eq_some_iff_getElem]
  exact ⟨h, by simpa using h1, fun j hj => by simpa using h2 j (by omega) hj⟩
theorem useK_none {d : Sp.Bs} {ps : List Pin} (h2 : ∀ i (hi : i < ps.length), dgP ps[i] ≠ d) : useK d ps = none := by
  unfold useK
  rw [List.findIdx?_eq_none_iff]
  intro x hx
  obtain ⟨i, hi, rfl⟩ := List.getElem_of_mem hx
  simpa using h2 i hi
set_option maxRecDepth 100000 in
set_option maxHeartbeats 4000000 in
theorem use_calls (g B : Nat) (d : Sp.Bs) (hd : d.length = 32) (now : Int) (ps : List Pin) (v : Value) (w : World) (hx : isBlk w g 62 #[v]) (ho : w.ownsRow B 101 2 v ps.length (pinsC ps)) (hBw : B ≤ w.heap.size) (hl : ps.length ≤ 1000)
    (ht : ∀ x ∈ ps, TreeAt w (.pointer x.1) x.2.1) (K : KeysAt w 2) :
    Calls Tryz.prog 50 #[.pointer (some ⟨g, 0, none⟩), digV d, .int .i64 now] w fun e w' => e = .returned (.int .i64 (useI d ps)) ∧ w'.ownsRow B 101 2 v ps.length (pinsC (useP d now ps)) ∧ Below B w w' := by
  have HX := Lib.hid hx
  have HO := Lib.hid ho
  have HT := Lib.hid ht
  have KK := Lib.hid K
  have tok1 : True := trivial
  obtain ⟨A, cap, rfl, _⟩ := own_read ho
  have f0 := (hx.cell 0).trans rfl
  have DC := Lib.hid (digC_size d)
  clear hx ho ht K
  go_enter Tryz.func50, Tryz.ntmps50
  go_wp2_with (have _t := tok1; ((with_reducible refine at_box (t := 41) rfl ?_); refine box_new rfl (cs := digC d) (t := 41) (by first | (go_simp; done) | (go_simp; rfl)) ?_; intro g2 w2 hg2 hx2 hb2; have X2 := Lib.hid hx2; have B2 := Lib.hid (show Ext w w2 from hb2); have Y2 := Lib.hid (HX.out.below hb2); have f2 := ((HX.out.below hb2).cell 0).trans rfl; clear tok1 _t hx2 hb2 hg2))
  have RG := Lib.hid (show ∀ W, Ext w2 W → W.rangeAt g2 0 (d.map byteV) from fun W e j u hj => by
    rw [Nat.zero_add, (X2.out.below e).cell j]
    simpa [digC] using hj)
  have DL := Lib.hid (show (d.map byteV).length = 32 by rw [List.length_map, hd])
  have DM := Lib.hid (show (d.map byteV).toArray = digC d from rfl)
  go_loopw [13] (fun v13 wr => ∃ k : Nat, k ≤ ps.length ∧ v13 = .int .i64 k ∧ (∀ i (h : i < ps.length), i < k → dgP ps[i] ≠ d) ∧ Ext w2 wr) (fun v13 _ => ps.length - (intOf v13).toNat)
  case atStart => exact ⟨0, Nat.zero_le _, rfl, fun i _ h => absurd h (Nat.not_lt_zero i), Ext.refl _⟩
  case round =>
    obtain ⟨k, hk, rfl, hne, hb⟩ := hrel
    by_cases hlt : k < ps.length
    · obtain ⟨a, c3, e3, hBa⟩ := owned_form HO.out (by omega)
      cases e3
      have OW := Lib.hid (own_ext HO.out (B2.out.trans hb))
      obtain ⟨c0, _⟩ := own_isBlk OW.out (k * 2) _ (pinsC_get ps k hlt).1
      obtain ⟨c1, f1, _, _⟩ := own_isBlk OW.out (k * 2 + 1) _ (pinsC_get ps k hlt).2
      have TX := Lib.hid (HT.out _ (List.getElem_mem hlt))
      have NE := Lib.hid hne
      have UK := Lib.hid (show dgP ps[k] = d → useK d ps = some k from fun h => useK_some hlt h hne)
      have PM := Lib.hid (pinsC_mod now ps k hlt)
      obtain ⟨x, hxk⟩ : ∃ x, x = ps[k] := ⟨_, rfl⟩
      rw [← hxk] at c0 c1 TX UK
      have C0 := Lib.hid c0
      have XK := Lib.hid hxk
      have TR := Lib.hid fun W (e : Ext wr W) => troot_calls x.2.1 (.pointer x.1) W (TX.out.ext ((B2.out.trans hb).trans e)) (KK.out.ext ((B2.out.trans hb).trans e))
      rw [show Sp.nsum (Sp.nodeT (x.2.1.getD .nil)) = dgP x from rfl] at TR
      obtain ⟨dx, hdx⟩ : ∃ dx, dx = dgP x := ⟨_, rfl⟩
      rw [← hdx] at TR UK
      have hq := fun W => dig_eqv dx d (by rw [hdx]; exact Sp.nsum_len _) hd W
      have hg := dig_guard
      have HB := Lib.hid hb
      have Y3 := Lib.hid (Y2.out.below hb)
      have NK := Lib.hid (show dx ≠ d → ∀ i (h : i < ps.length), i < k + 1 → dgP ps[i] ≠ d from fun hh i h1 h2 => by
        by_cases hik : i = k
        · subst hik
          rw [← XK.out, ← hdx]; exact hh
        · exact NE.out i h1 (by omega))
      have b1 : (k : Int) < (ps.length : Int) := by omega
      clear hne hxk hdx hb c0 c1 f1
      go_wp2_with fail
      refine wp_region_det (fun W => Ext wr W) (by kernel_rfl) (by kernel_rfl) (Ext.refl wr).drew ?_
      repeat (first
        | (refine det_step (fun K hK => ?_); (refine det_load_mid rfl 41 (.tmp 4) rfl g2 0 rfl (d.map byteV) _ (fun W hS => RG.out W (HB.out.trans hS)) Tryz.underlying41 rfl (by rw [DL.out]; kernel_rfl) ?_; rw [DM.out]); go_simp; refine hK _ ?_; clear hK K)
        | (refine det_step (fun K hK => ?_)
           apply Exists.intro
           refine ⟨Or.inl ⟨rfl, fun W hS => ?_⟩, ?_⟩
           · replace hS : Ext wr W := hS; have z0 := ((Y3.out.below hS).cell 0).trans rfl; have z1 := hS.cell C0.out
             go_simp
             first
             | exact rfl
             | exact ⟨rfl, hS⟩
             | ((refine (TR.out W hS).mono ?_; rintro e w9 ⟨rfl, hb9⟩; exact ⟨rfl, hS.trans hb9⟩))
           go_simp
           refine hK _ ?_
           clear hK K)
        | (refine det_step (fun K hK => ?_); refine det_no' rfl ?_; go_simp; refine hK _ ?_; clear hK K))
      refine det_nil ?_
      intro W9 hS
      replace hS : Ext wr W9 := hS
      have E9 := Lib.hid (HB.out.trans hS)
      have O9 := Lib.hid (own_ext OW.out hS)
      have Y9 := Lib.hid (Y3.out.below hS)
      clear hS
      have z0 := (Y9.out.cell 0).trans rfl
      obtain ⟨c1, f1, _, _⟩ := own_isBlk O9.out (k * 2 + 1) _ (pinsC_get ps k hlt).2
      go_wp2_with fail
      · rename_i hdd
        have UK2 := Lib.hid (UK.out (by simpa using hdd))
        go_ret
        refine ⟨by rw [useI, UK2.out]; rfl, ?_, ?_⟩
        · rw [useP, UK2.out]
          simp only
          rw [← PM.out]
          exact own_set O9.out (k * 2 + 1) (by rw [pinsC_len]; omega) _
        · exact Below.trans ((B2.out.trans E9.out).mono hBw) ((Below.refl _ _).setCell hBa _)
      · rename_i hdd
        have NK2 := Lib.hid (NK.out (by simpa using hdd))
        go_roundw
        case rel => exact ⟨k + 1, by omega, by go_num, NK2.out, E9.out⟩
        case measure => simp [intOf]; omega
    · obtain rfl : k = ps.length := by omega
      have UN := Lib.hid (useK_none (fun i h => hne i h h))
      clear hne
      go_wp2
      go_ret
      exact ⟨by rw [useI, UN.out]; rfl, by rw [useP, UN.out]; exact own_ext HO.out (B2.out.trans hb), (B2.out.trans hb).mono hBw⟩
end Go.Proofs.YtedjiaenodechaaGreatDoor
namespace Go.Proofs.YtedjiaenodechaaGreatDoor
open Go.RowKit Go.Shelf
attribute [local go_sem] yUpon strOf_toList pinV
def lastAt (ps : List Pin) (i : Nat) : Int := ((ps[i]?).map (·.2.2)).getD 0
/-- The one that was of use longest ago, of the first so many. -/
def minN (ps : List Pin) : Nat → Nat
  | 0 => 0
  | k + 1 => if lastAt ps k < lastAt ps (minN ps k) then k else minN ps k
theorem minN_lt (ps : List Pin) (h : 0 < ps.length) : ∀ k, k ≤ ps.length → minN ps k < ps.length
  | 0, _ => h
  | k + 1, hk => by
    rw [minN]
    split
    · exact hk
    · exact minN_lt ps h k (by omega)
theorem lastAt_eq (ps : List Pin) (i : Nat) (h : i < ps.length) : lastAt ps i = ps[i].2.2 := by simp [lastAt, h]
def roomS (ps : List Pin) : List Pin := if ps.length < 4 then ps else selN (fun i => decide (i ≠ minN ps ps.length)) ps ps.length
set_option maxRecDepth 100000 in
set_option maxHeartbeats 1000000 in
theorem room1_calls (x : Pin) (k m bi bf : Nat) (w : World) (hi : isBlk w bi 3 #[.int .i64 ((k : Int) - 1)]) (hf : isBlk w bf 3 #[.int .i64 m]) (hne : bf ≠ bi) (hk : k ≤ 1000) (hm : m ≤ 1000) :
    Calls Tryz.prog 76 #[pinV x, .pointer (some ⟨bi, 0, none⟩), .pointer (some ⟨bf, 0, none⟩)] w fun e w' => e = .returned (.bool (decide (k ≠ m))) ∧ isBlk w' bi 3 #[.int .i64 k] ∧ Only bi w w' ∧ KB intT 0 w w' := by
  obtain ⟨x1, x2, x3⟩ := x
  obtain ⟨w1, hw1⟩ : ∃ w1, w1 = w.alloc (.cells #[.pointer x1, .int .i64 x3] 101) := ⟨_, rfl⟩
  have I1 := Lib.hid (show isBlk w1 bi 3 #[.int .i64 ((k : Int) - 1)] by rw [hw1]; exact hi.alloc _)
  have F1 := Lib.hid (show isBlk w1 bf 3 #[.int .i64 m] by rw [hw1]; exact hf.alloc _)
  have E1 := Lib.hid (show Ext w w1 by rw [hw1]; exact Ext.alloc _ _)
  have HW := Lib.hid hw1
  have wr1 : IntKind.i64.wrap ((k : Int) - 1 + 1) = (k : Int) := by rw [show (k : Int) - 1 + 1 = k by omega]; exact IntWalk.i64_in _ (by omega)
  clear hi hf hw1
  go_enter Tryz.func76, Tryz.ntmps76
  go_upto_region 1 with fail
  rw [← HW.out]
  have i0 := (I1.out.cell 0).trans rfl
  have i1 := I1.out.frozen 0
  have f0 := (F1.out.cell 0).trans rfl
  have I2 := Lib.hid (I1.out.put 0 (.int .i64 k) rfl)
  have F2 := Lib.hid (F1.out.far hne (j := 0) (.int .i64 k))
  have g0 := (I2.out.cell 0).trans rfl
  have g1 := (F2.out.cell 0).trans rfl
  have ON := Lib.hid (show Only bi w (w1.setCell ⟨bi, 0, none⟩ (.int .i64 k)) from (Only.of_below bi E1.out).trans (Only.set _ _ _ _))
  have KB1 := Lib.hid (show KB intT 0 w (w1.setCell ⟨bi, 0, none⟩ (.int .i64 k)) from (KB.ext (Nat.zero_le _) E1.out).trans (KB.set (T := intT) I1.out rfl (Nat.zero_le _) _))
  have dk : ((k : Int) != (m : Int)) = decide (k ≠ m) := by
    by_cases h : k = m
    · subst h; simp
    · have : ((k : Int) != (m : Int)) = true := by rw [bne_iff_ne]; omega
      rw [this, decide_eq_true h]
  go_wp2_with fail
  go_ret
  exact ⟨by first | rfl | (rw [dk]; rfl) | simp [dk], I2.out, ON.out, KB1.out⟩
set_option maxRecDepth 100000 in
set_option maxHeartbeats 4000000 in
theorem room_calls (g B : Nat) (ps : List Pin) (v : Value) (w : World) (hx : isBlk w g 62 #[v]) (ho : w.ownsRow B 101 2 v ps.length (pinsC ps)) (hBw : B ≤ w.heap.size) (hl : ps.length ≤ 1000) :
    Calls Tryz.prog 51 #[.pointer (some ⟨g, 0, none⟩)] w fun e w' => e = .returned (.tuple #[]) ∧ ∃ v', isBlk w' g 62 #[v'] ∧ w'.ownsRow B 101 2 v' (roomS ps).length (pinsC (roomS ps)) ∧ Only g w w' := by
  obtain ⟨A, cap, rfl, hc⟩ := own_read ho
  have HX := Lib.hid hx
  have HO := Lib.hid ho
  have f0 := (hx.cell 0).trans rfl
  clear hx ho hc
  go_enter Tryz.func51, Tryz.ntmps51
  by_cases h4 : ps.length < 4
  · have e1 : (ps.length : Int) < 4 := by omega
    have RS := Lib.hid (show roomS ps = ps by unfold roomS; rw [if_pos h4])
    clear h4
    go_wp2_with fail
    refine bodyPost_ret (results_none rfl _ _ _) rfl ?_
    rw [RS.out]
    exact ⟨rfl, _, HX.out, HO.out, Only.refl _ _⟩
  · have e1 : ¬ (ps.length : Int) < 4 := by omega
    have RS := Lib.hid (show roomS ps = selN (fun i => decide (i ≠ minN ps ps.length)) ps ps.length by unfold roomS; rw [if_neg h4])
    have hpos : 0 < ps.length := by omega
    obtain ⟨a, c3, e3, hBa⟩ := owned_form HO.out hpos
    cases e3
    have tok1 : True := trivial
    go_upto_region 2 with (have _t := tok1; ((with_reducible refine at_alloc (t := 3) rfl ?_); refine box_new rfl (cs := #[.int .i64 0]) (t := 3) (by first | (go_simp; done) | (go_simp; rfl)) ?_; intro bf w2 hg2 hx2 hb2; have X2 := Lib.hid hx2; have B2 := Lib.hid (show Ext w w2 from hb2); have GB := Lib.hid hg2; have k0 := (hx2.cell 0).trans rfl; have k1 := hx2.frozen 0; clear tok1 _t hx2 hb2 hg2))
    obtain ⟨w3, hw3⟩ : ∃ w3, w3 = w2.setCell ⟨bf, 0, none⟩ (.int .i64 0) := ⟨_, rfl⟩
    have X3 := Lib.hid (show isBlk w3 bf 3 #[.int .i64 0] by rw [hw3]; exact X2.out.put 0 _ rfl)
    have GN := Lib.hid (show g ≠ bf by have := HX.out.lt; have := GB.out; omega)
    have AN := Lib.hid (show a ≠ bf by have := (HO.out.lt a rfl).2; have := GB.out; omega)
    have ON := Lib.hid (show Only bf w w3 by rw [hw3]; exact (Only.of_below bf B2.out).trans (Only.set _ _ _ _))
    have Y3 := Lib.hid (show isBlk w3 g 62 #[.slice (some ⟨a, 0, none⟩) ps.length cap] from ON.out.blk HX.out GN.out)
    have O3 := Lib.hid (own_apart HO.out ON.out (fun e => AN.out (Option.some.inj e)))
    have z0 := (Y3.out.cell 0).trans rfl
    rw [← hw3]
    clear hw3 k0 k1 f0
    go_wp2_with fail
    go_loopw [17] (fun v17 wr => ∃ k : Nat, k ≤ ps.length ∧ v17 = .int .i64 k ∧ isBlk wr bf 3 #[.int .i64 (minN ps k)] ∧ Only bf w3 wr) (fun v17 _ => ps.length - (intOf v17).toNat)
    case atStart => exact ⟨0, Nat.zero_le _, rfl, X3.out, Only.refl _ _⟩
    case round =>
      obtain ⟨k, hk, rfl, hbx, hon⟩ := hrel
      have XB := Lib.hid hbx
      have OB := Lib.hid hon
      have Y4 := Lib.hid (hon.blk Y3.out GN.out)
      have O4 := Lib.hid (own_apart O3.out hon (fun e => AN.out (Option.some.inj e)))
      clear hbx hon
      by_cases hlt : k < ps.length
      · obtain ⟨c0, _, _, _⟩ := own_isBlk O4.out (k * 2) _ (pinsC_get ps k hlt).1
        obtain ⟨c1, _, _, _⟩ := own_isBlk O4.out (k * 2 + 1) _ (pinsC_get ps k hlt).2
        have hm := minN_lt ps hpos k hk
        obtain ⟨c3, _, _, _⟩ := own_isBlk O4.out (minN ps k * 2 + 1) _ (pinsC_get ps _ hm).2
        rw [← lastAt_eq ps k hlt] at c1
        rw [← lastAt_eq ps _ hm] at c3
        have MS := Lib.hid (show minN ps (k + 1) = if lastAt ps k < lastAt ps (minN ps k) then k else minN ps k from rfl)
        obtain ⟨m, hmm⟩ : ∃ m, m = minN ps k := ⟨_, rfl⟩
        rw [← hmm] at c3 MS XB hm
        obtain ⟨lk, hlk⟩ : ∃ lk, lk = lastAt ps k := ⟨_, rfl⟩
        obtain ⟨lm, hlm⟩ : ∃ lm, lm = lastAt ps m := ⟨_, rfl⟩
        rw [← hlk] at c1 MS
        rw [← hlm] at c3 MS
        have b1 : (k : Int) < (ps.length : Int) := by omega
        have b2 : (m : Int) < (ps.length : Int) := by omega
        have C3 := Lib.hid c3
        obtain ⟨pk, hpk⟩ : ∃ pk, pk = ps[k].1 := ⟨_, rfl⟩
        rw [← hpk] at c0
        clear hmm hlk hlm c3 hpk
        go_upto_region 5 with fail
        obtain ⟨w5, hw5⟩ : ∃ w5, w5 = wr.alloc (.cells #[.pointer pk, .int .i64 lk] 101) := ⟨_, rfl⟩
        have V5 := Lib.hid (show isBlk w5 wr.heap.size 101 #[.pointer pk, .int .i64 lk] by rw [hw5]; exact box_at wr _ _)
        have E5 := Lib.hid (show Ext wr w5 by rw [hw5]; exact Ext.alloc _ _)
        rw [← hw5]
        clear hw5 c0 c1
        refine wp_region_det (fun W => Ext w5 W) (by kernel_rfl) (by kernel_rfl) (Below.refl _ _).drew ?_
        repeat (first
          | (refine det_step (fun K hK => ?_)
             apply Exists.intro
             refine ⟨Or.inl ⟨rfl, fun W hS => ?_⟩, ?_⟩
             · replace hS : Ext w5 W := hS
               have z0 := ((Y4.out.below (E5.out.trans hS)).cell 0).trans rfl; have z1 := ((V5.out.below hS).cell 1).trans rfl; have z2 := ((XB.out.below (E5.out.trans hS)).cell 0).trans rfl; have z3 := (E5.out.trans hS).cell C3.out
               go_simp
               first
               | exact rfl
               | exact ⟨rfl, hS⟩
               | (fail)
             go_simp
             refine hK _ ?_
             clear hK K)
          | (refine det_step (fun K hK => ?_); refine det_no' rfl ?_; go_simp; refine hK _ ?_; clear hK K))
        refine det_nil ?_
        intro W9 hS
        replace hS : Ext _ W9 := hS
        have EW := Lib.hid (E5.out.trans hS)
        have X9 := Lib.hid (XB.out.below EW.out)
        have k0 := X9.out.frozen 0
        have k1 := (X9.out.cell 0).trans rfl
        have OB9 := Lib.hid (OB.out.trans (Only.of_below bf EW.out))
        clear hS
        go_wp2_with fail
        · rename_i hd
          go_roundw
          case rel => exact ⟨k + 1, by omega, by go_num, by rw [MS.out, if_pos hd]; exact X9.out.put 0 _ rfl, OB9.out.trans (Only.set _ _ _ _)⟩
          case measure => simp [intOf]; omega
        · rename_i hd
          go_roundw
          case rel => exact ⟨k + 1, by omega, by go_num, by rw [MS.out, if_neg (by omega)]; exact X9.out, OB9.out⟩
          case measure => simp [intOf]; omega
      · obtain rfl : k = ps.length := by omega
        have hm := minN_lt ps hpos _ (Nat.le_refl _)
        obtain ⟨m, hmm⟩ : ∃ m, m = minN ps ps.length := ⟨_, rfl⟩
        rw [← hmm] at XB RS hm
        clear hmm
        have tok2 : True := trivial
        go_upto_region 9 with (have _t := tok2; ((with_reducible refine at_alloc (t := 3) rfl ?_); refine box_new rfl (cs := #[.int .i64 0]) (t := 3) (by first | (go_simp; done) | (go_simp; rfl)) ?_; intro bi w5 hg5 hx5 hb5; have X5 := Lib.hid hx5; have B5 := Lib.hid (show Ext wr w5 from hb5); have GI := Lib.hid hg5; have k0 := (hx5.cell 0).trans rfl; have k1 := hx5.frozen 0; clear tok2 _t hx5 hb5 hg5))
        obtain ⟨w6, hw6⟩ : ∃ w6, w6 = w5.setCell ⟨bi, 0, none⟩ (.int .i64 (-1)) := ⟨_, rfl⟩
        have NB := Lib.hid (show bf ≠ bi by have := XB.out.lt; have := GI.out; omega)
        have NG := Lib.hid (show g ≠ bi by have := Y4.out.lt; have := GI.out; omega)
        have NA := Lib.hid (show a ≠ bi by have := (O4.out.lt a rfl).2; have := GI.out; omega)
        have I6 := Lib.hid (show isBlk w6 bi 3 #[.int .i64 (-1)] by rw [hw6]; exact X5.out.put 0 _ rfl)
        have O56 := Lib.hid (show Only bi wr w6 by rw [hw6]; exact (Only.of_below bi B5.out).trans (Only.set _ _ _ _))
        have F6 := Lib.hid (O56.out.blk XB.out NB.out)
        have Y6 := Lib.hid (O56.out.blk Y4.out NG.out)
        have O6 := Lib.hid (own_apart O4.out O56.out (fun e => NA.out (Option.some.inj e)))
        have OW6 := Lib.hid (show ∀ g', g' ≠ bf → g' ≠ bi → ∀ k, k < w.heap.size → w6.heap[k]? = w.heap[k]? from fun g' _ _ k hk => by
          have h1 : k ≠ bf := by have := GB.out; omega
          have hs1 : w.heap.size ≤ w3.heap.size := ON.out.size
          have hs2 : w3.heap.size ≤ wr.heap.size := OB.out.size
          have h2 : k ≠ bi := by have := GI.out; omega
          exact (O56.out.block k (by omega) h2).trans ((OB.out.block k (by omega) h1).trans (ON.out.block k hk h1)))
        have EW := Lib.hid (show Ext w w6 from ⟨O56.out.os.trans (OB.out.os.trans ON.out.os), O56.out.tape.trans (OB.out.tape.trans ON.out.tape), O56.out.output.trans (OB.out.output.trans ON.out.output), Nat.le_trans ON.out.size (Nat.le_trans OB.out.size O56.out.size), fun k hk => OW6.out g GN.out NG.out k hk⟩)
        have SC := Lib.hid (some_calls ps (some ⟨a, 0, none⟩) cap 76 #[.pointer (some ⟨bi, 0, none⟩), .pointer (some ⟨bf, 0, none⟩)] (fun i => decide (i ≠ m)) (fun k W => isBlk W bi 3 #[.int .i64 ((k : Int) - 1)] ∧ Only bi w6 W) w6 (by omega) (enters_of Tryz.func76 (by kernel_rfl) rfl)
          (fun k W W' h e => ⟨(e.block bi I6.out.lt).trans h.1, ⟨e.os.trans h.2.os, e.tape.trans h.2.tape, e.output.trans h.2.output, Nat.le_trans h.2.size e.size, fun j hj hn => (e.block j hj).trans (h.2.block j hj hn)⟩⟩) (fun k W h => by
            obtain ⟨A2, c2, e2, hc2⟩ := own_read (own_apart O6.out h.2 (fun e => NA.out (Option.some.inj e)))
            cases e2
            exact hc2) (fun k W h => h.2.size) (fun k hk W h => by
            refine (room1_calls ps[k] k m bi bf W h.1 (h.2.blk F6.out NB.out) NB.out (by omega) (by omega)).mono ?_
            rintro e w' ⟨rfl, hi', ho', hk'⟩
            exact ⟨rfl, ⟨by rw [show ((k + 1 : Nat) : Int) - 1 = k by omega]; exact hi', h.2.trans ho'⟩, hk'⟩) ⟨I6.out, Only.refl _ _⟩)
        obtain ⟨s7, hs7⟩ : ∃ s7, s7 = selN (fun i => decide (i ≠ m)) ps ps.length := ⟨_, rfl⟩
        rw [← hs7] at RS SC
        clear hs7
        have z6 := (Y6.out.cell 0).trans rfl
        rw [← hw6]
        clear k0 k1 hw6
        go_wp2_with fail
        refine SC.out.mono ?_
        rintro e w7 ⟨v7, rfl, hO7, _, hon7⟩
        obtain ⟨A7, c7, rfl, _⟩ := own_read hO7
        have Y7 := Lib.hid (hon7.blk Y6.out NG.out)
        have O7 := Lib.hid (own_lowT hO7 (Nat.le_trans hBw EW.out.size))
        have N7 := Lib.hid (show ∀ b, A7 = some b → b.block ≠ g from fun b hb e => by
          have h1 := own_off hO7 b hb
          have h2 := Y6.out.lt
          omega)
        have E7 := Lib.hid (show Only g w w7 from ⟨hon7.os.trans EW.out.os, hon7.tape.trans EW.out.tape, hon7.output.trans EW.out.output, Nat.le_trans EW.out.size hon7.size, fun k hk hn => by
          have h2 : k ≠ bi := by have := GI.out; have := OB.out.size; have := ON.out.size; omega
          exact (hon7.block k (Nat.lt_of_lt_of_le hk EW.out.size) h2).trans (EW.out.block k hk)⟩)
        have k0 := Y7.out.frozen 0
        have k1 := (Y7.out.cell 0).trans rfl
        clear hO7 hon7 z6
        go_wp2_with fail
        go_end0
        rw [RS.out]
        refine ⟨rfl, _, Y7.out.put 0 _ rfl, own_far O7.out (fun e => ?_) _, E7.out.trans (Only.set _ _ _ _)⟩
        cases hA : A7 with
        | none => rw [hA] at e; cases e
        | some b =>
          rw [hA] at e
          exact N7.out b hA (Option.some.inj e)
end Go.Proofs.YtedjiaenodechaaGreatDoor
