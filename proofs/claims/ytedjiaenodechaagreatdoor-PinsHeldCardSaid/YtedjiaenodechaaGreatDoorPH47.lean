/- Walks: pins: room for one more. Walks: pins: a tree is put. Walks: pins: Put, Find, Len. -/
import Derived.Test.YtedjiaenodechaaGreatDoorPH46
namespace Go.Proofs.YtedjiaenodechaaGreatDoor
open Go.RowKit Go.Shelf
attribute [local go_sem] yUpon strOf_toList pinV
def lastAt (ps : List Pin) (i : Nat) : Int := ((ps[i]?).map (·.2.2)).getD 0
/-- The one that was of use longest ago, of the first so many. -/
def minN (ps : List Pin) : Nat → Nat
  | 0 => 0
  | k + 1 => if lastAt ps k < lastAt ps (minN ps k) then k else minN ps k
theorem minN_lt (ps : List Pin) (h : 0 < ps.length) : ∀ k, k ≤ ps.length → minN ps k < ps.length
  | 0, _ => h
  | k + 1, hk => by
    rw [minN]
    split
    · exact hk
    · exact minN_lt ps h k (by omega)
theorem lastAt_eq (ps : List Pin) (i : Nat) (h : i < ps.length) : lastAt ps i = ps[i].2.2 := by simp [lastAt, h]
def roomS (ps : List Pin) : List Pin := if ps.length < 4 then ps else selN (fun i => decide (i ≠ minN ps ps.length)) ps ps.length
set_option maxRecDepth 100000 in
set_option maxHeartbeats 1000000 in
theorem room1_calls (x : Pin) (k m bi bf : Nat) (w : World) (hi : isBlk w bi 3 #[.int .i64 ((k : Int) - 1)]) (hf : isBlk w bf 3 #[.int .i64 m]) (hne : bf ≠ bi) (hk : k ≤ 1000) (hm : m ≤ 1000) :
    Calls Tryz.prog 76 #[pinV x, .pointer (some ⟨bi, 0, none⟩), .pointer (some ⟨bf, 0, none⟩)] w fun e w' => e = .returned (.bool (decide (k ≠ m))) ∧ isBlk w' bi 3 #[.int .i64 k] ∧ Only bi w w' ∧ KB intT 0 w w' := by
  obtain ⟨x1, x2, x3⟩ := x
  obtain ⟨w1, hw1⟩ : ∃ w1, w1 = w.alloc (.cells #[.pointer x1, .int .i64 x3] 101) := ⟨_, rfl⟩
  have I1 := Lib.hid (show isBlk w1 bi 3 #[.int .i64 ((k : Int) - 1)] by rw [hw1]; exact hi.alloc _)
  have F1 := Lib.hid (show isBlk w1 bf 3 #[.int .i64 m] by rw [hw1]; exact hf.alloc _)
  have E1 := Lib.hid (show Ext w w1 by rw [hw1]; exact Ext.alloc _ _)
  have HW := Lib.hid hw1
  have wr1 : IntKind.i64.wrap ((k : Int) - 1 + 1) = (k : Int) := by rw [show (k : Int) - 1 + 1 = k by omega]; exact IntWalk.i64_in _ (by omega)
  clear hi hf hw1
  go_enter Tryz.func76, Tryz.ntmps76
  go_upto_region 1 with fail
  rw [← HW.out]
  have i0 := (I1.out.cell 0).trans rfl
  have i1 := I1.out.frozen 0
  have f0 := (F1.out.cell 0).trans rfl
  have I2 := Lib.hid (I1.out.put 0 (.int .i64 k) rfl)
  have F2 := Lib.hid (F1.out.far hne (j := 0) (.int .i64 k))
  have g0 := (I2.out.cell 0).trans rfl
  have g1 := (F2.out.cell 0).trans rfl
  have ON := Lib.hid (show Only bi w (w1.setCell ⟨bi, 0, none⟩ (.int .i64 k)) from (Only.of_below bi E1.out).trans (Only.set _ _ _ _))
  have KB1 := Lib.hid (show KB intT 0 w (w1.setCell ⟨bi, 0, none⟩ (.int .i64 k)) from (KB.ext (Nat.zero_le _) E1.out).trans (KB.set (T := intT) I1.out rfl (Nat.zero_le _) _))
  have dk : ((k : Int) != (m : Int)) = decide (k ≠ m) := by
    by_cases h : k = m
    · subst h; simp
    · have : ((k : Int) != (m : Int)) = true := by rw [bne_iff_ne]; omega
      rw [this, decide_eq_true h]
  go_wp2_with fail
  go_ret
  exact ⟨by first | rfl | (rw [dk]; rfl) | simp [dk], I2.out, ON.out, KB1.out⟩
set_option maxRecDepth 100000 in
set_option maxHeartbeats 4000000 in
theorem room_calls (g B : Nat) (ps : List Pin) (v : Value) (w : World) (hx : isBlk w g 62 #[v]) (ho : w.ownsRow B 101 2 v ps.length (pinsC ps)) (hBw : B ≤ w.heap.size) (hl : ps.length ≤ 1000) :
    Calls Tryz.prog 51 #[.pointer (some ⟨g, 0, none⟩)] w fun e w' => e = .returned (.tuple #[]) ∧ ∃ v', isBlk w' g 62 #[v'] ∧ w'.ownsRow B 101 2 v' (roomS ps).length (pinsC (roomS ps)) ∧ Only g w w' := by
  obtain ⟨A, cap, rfl, hc⟩ := own_read ho
  have HX := Lib.hid hx
  have HO := Lib.hid ho
  have f0 := (hx.cell 0).trans rfl
  clear hx ho hc
  go_enter Tryz.func51, Tryz.ntmps51
  by_cases h4 : ps.length < 4
  · have e1 : (ps.length : Int) < 4 := by omega
    have RS := Lib.hid (show roomS ps = ps by unfold roomS; rw [if_pos h4])
    clear h4
    go_wp2_with fail
    refine bodyPost_ret (results_none rfl _ _ _) rfl ?_
    rw [RS.out]
    exact ⟨rfl, _, HX.out, HO.out, Only.refl _ _⟩
  · have e1 : ¬ (ps.length : Int) < 4 := by omega
    have RS := Lib.hid (show roomS ps = selN (fun i => decide (i ≠ minN ps ps.length)) ps ps.length by unfold roomS; rw [if_neg h4])
    have hpos : 0 < ps.length := by omega
    obtain ⟨a, c3, e3, hBa⟩ := owned_form HO.out hpos
    cases e3
    have tok1 : True := trivial
    go_upto_region 2 with (have _t := tok1; ((with_reducible refine at_alloc (t := 3) rfl ?_); refine box_new rfl (cs := #[.int .i64 0]) (t := 3) (by first | (go_simp; done) | (go_simp; rfl)) ?_; intro bf w2 hg2 hx2 hb2; have X2 := Lib.hid hx2; have B2 := Lib.hid (show Ext w w2 from hb2); have GB := Lib.hid hg2; have k0 := (hx2.cell 0).trans rfl; have k1 := hx2.frozen 0; clear tok1 _t hx2 hb2 hg2))
    obtain ⟨w3, hw3⟩ : ∃ w3, w3 = w2.setCell ⟨bf, 0, none⟩ (.int .i64 0) := ⟨_, rfl⟩
    have X3 := Lib.hid (show isBlk w3 bf 3 #[.int .i64 0] by rw [hw3]; exact X2.out.put 0 _ rfl)
    have GN := Lib.hid (show g ≠ bf by have := HX.out.lt; have := GB.out; omega)
    have AN := Lib.hid (show a ≠ bf by have := (HO.out.lt a rfl).2; have := GB.out; omega)
    have ON := Lib.hid (show Only bf w w3 by rw [hw3]; exact (Only.of_below bf B2.out).trans (Only.set _ _ _ _))
    have Y3 := Lib.hid (show isBlk w3 g 62 #[.slice (some ⟨a, 0, none⟩) ps.length cap] from ON.out.blk HX.out GN.out)
    have O3 := Lib.hid (own_apart HO.out ON.out (fun e => AN.out (Option.some.inj e)))
    have z0 := (Y3.out.cell 0).trans rfl
    rw [← hw3]
    clear hw3 k0 k1 f0
    go_wp2_with fail
    go_loopw [17] (fun v17 wr => ∃ k : Nat, k ≤ ps.length ∧ v17 = .int .i64 k ∧ isBlk wr bf 3 #[.int .i64 (minN ps k)] ∧ Only bf w3 wr) (fun v17 _ => ps.length - (intOf v17).toNat)
    case atStart => exact ⟨0, Nat.zero_le _, rfl, X3.out, Only.refl _ _⟩
    case round =>
      obtain ⟨k, hk, rfl, hbx, hon⟩ := hrel
      have XB := Lib.hid hbx
      have OB := Lib.hid hon
      have Y4 := Lib.hid (hon.blk Y3.out GN.out)
      have O4 := Lib.hid (own_apart O3.out hon (fun e => AN.out (Option.some.inj e)))
      clear hbx hon
      by_cases hlt : k < ps.length
      · obtain ⟨c0, _, _, _⟩ := own_isBlk O4.out (k * 2) _ (pinsC_get ps k hlt).1
        obtain ⟨c1, _, _, _⟩ := own_isBlk O4.out (k * 2 + 1) _ (pinsC_get ps k hlt).2
        have hm := minN_lt ps hpos k hk
        obtain ⟨c3, _, _, _⟩ := own_isBlk O4.out (minN ps k * 2 + 1) _ (pinsC_get ps _ hm).2
        rw [← lastAt_eq ps k hlt] at c1
        rw [← lastAt_eq ps _ hm] at c3
        have MS := Lib.hid (show minN ps (k + 1) = if lastAt ps k < lastAt ps (minN ps k) then k else minN ps k from rfl)
        obtain ⟨m, hmm⟩ : ∃ m, m = minN ps k := ⟨_, rfl⟩
        rw [← hmm] at c3 MS XB hm
        obtain ⟨lk, hlk⟩ : ∃ lk, lk = lastAt ps k := ⟨_, rfl⟩
        obtain ⟨lm, hlm⟩ : ∃ lm, lm = lastAt ps m := ⟨_, rfl⟩
        rw [← hlk] at c1 MS
        rw [← hlm] at c3 MS
        have b1 : (k : Int) < (ps.length : Int) := by omega
        have b2 : (m : Int) < (ps.length : Int) := by omega
        have C3 := Lib.hid c3
        obtain ⟨pk, hpk⟩ : ∃ pk, pk = ps[k].1 := ⟨_, rfl⟩
        rw [← hpk] at c0
        clear hmm hlk hlm c3 hpk
        go_upto_region 5 with fail
        obtain ⟨w5, hw5⟩ : ∃ w5, w5 = wr.alloc (.cells #[.pointer pk, .int .i64 lk] 101) := ⟨_, rfl⟩
        have V5 := Lib.hid (show isBlk w5 wr.heap.size 101 #[.pointer pk, .int .i64 lk] by rw [hw5]; exact box_at wr _ _)
        have E5 := Lib.hid (show Ext wr w5 by rw [hw5]; exact Ext.alloc _ _)
        rw [← hw5]
        clear hw5 c0 c1
        refine wp_region_det (fun W => Ext w5 W) (by kernel_rfl) (by kernel_rfl) (Below.refl _ _).drew ?_
        repeat (first
          | (refine det_step (fun K hK => ?_)
             apply Exists.intro
             refine ⟨Or.inl ⟨rfl, fun W hS => ?_⟩, ?_⟩
             · replace hS : Ext w5 W := hS
               have z0 := ((Y4.out.below (E5.out.trans hS)).cell 0).trans rfl; have z1 := ((V5.out.below hS).cell 1).trans rfl; have z2 := ((XB.out.below (E5.out.trans hS)).cell 0).trans rfl; have z3 := (E5.out.trans hS).cell C3.out
               go_simp
               first
               | exact rfl
               | exact ⟨rfl, hS⟩
               | (fail)
             go_simp
             refine hK _ ?_
             clear hK K)
          | (refine det_step (fun K hK => ?_); refine det_no' rfl ?_; go_simp; refine hK _ ?_; clear hK K))
        refine det_nil ?_
        intro W9 hS
        replace hS : Ext _ W9 := hS
        have EW := Lib.hid (E5.out.trans hS)
        have X9 := Lib.hid (XB.out.below EW.out)
        have k0 := X9.out.frozen 0
        have k1 := (X9.out.cell 0).trans rfl
        have OB9 := Lib.hid (OB.out.trans (Only.of_below bf EW.out))
        clear hS
        go_wp2_with fail
        · rename_i hd
          go_roundw
          case rel => exact ⟨k + 1, by omega, by go_num, by rw [MS.out, if_pos hd]; exact X9.out.put 0 _ rfl, OB9.out.trans (Only.set _ _ _ _)⟩
          case measure => simp [intOf]; omega
        · rename_i hd
          go_roundw
          case rel => exact ⟨k + 1, by omega, by go_num, by rw [MS.out, if_neg (by omega)]; exact X9.out, OB9.out⟩
          case measure => simp [intOf]; omega
      · obtain rfl : k = ps.length := by omega
        have hm := minN_lt ps hpos _ (Nat.le_refl _)
        obtain ⟨m, hmm⟩ : ∃ m, m = minN ps ps.length := ⟨_, rfl⟩
        rw [← hmm] at XB RS hm
        clear hmm
        have tok2 : True := trivial
        go_upto_region 9 with (have _t := tok2; ((with_reducible refine at_alloc (t := 3) rfl ?_); refine box_new rfl (cs := #[.int .i64 0]) (t := 3) (by first | (go_simp; done) | (go_simp; rfl)) ?_; intro bi w5 hg5 hx5 hb5; have X5 := Lib.hid hx5; have B5 := Lib.hid (show Ext wr w5 from hb5); have GI := Lib.hid hg5; have k0 := (hx5.cell 0).trans rfl; have k1 := hx5.frozen 0; clear tok2 _t hx5 hb5 hg5))
        obtain ⟨w6, hw6⟩ : ∃ w6, w6 = w5.setCell ⟨bi, 0, none⟩ (.int .i64 (-1)) := ⟨_, rfl⟩
        have NB := Lib.hid (show bf ≠ bi by have := XB.out.lt; have := GI.out; omega)
        have NG := Lib.hid (show g ≠ bi by have := Y4.out.lt; have := GI.out; omega)
        have NA := Lib.hid (show a ≠ bi by have := (O4.out.lt a rfl).2; have := GI.out; omega)
        have I6 := Lib.hid (show isBlk w6 bi 3 #[.int .i64 (-1)] by rw [hw6]; exact X5.out.put 0 _ rfl)
        have O56 := Lib.hid (show Only bi wr w6 by rw [hw6]; exact (Only.of_below bi B5.out).trans (Only.set _ _ _ _))
        have F6 := Lib.hid (O56.out.blk XB.out NB.out)
        have Y6 := Lib.hid (O56.out.blk Y4.out NG.out)
        have O6 := Lib.hid (own_apart O4.out O56.out (fun e => NA.out (Option.some.inj e)))
        have OW6 := Lib.hid (show ∀ g', g' ≠ bf → g' ≠ bi → ∀ k, k < w.heap.size → w6.heap[k]? = w.heap[k]? from fun g' _ _ k hk => by
          have h1 : k ≠ bf := by have := GB.out; omega
          have hs1 : w.heap.size ≤ w3.heap.size := ON.out.size
          have hs2 : w3.heap.size ≤ wr.heap.size := OB.out.size
          have h2 : k ≠ bi := by have := GI.out; omega
          exact (O56.out.block k (by omega) h2).trans ((OB.out.block k (by omega) h1).trans (ON.out.block k hk h1)))
        have EW := Lib.hid (show Ext w w6 from ⟨O56.out.os.trans (OB.out.os.trans ON.out.os), O56.out.tape.trans (OB.out.tape.trans ON.out.tape), O56.out.output.trans (OB.out.output.trans ON.out.output), Nat.le_trans ON.out.size (Nat.le_trans OB.out.size O56.out.size), fun k hk => OW6.out g GN.out NG.out k hk⟩)
        have SC := Lib.hid (some_calls ps (some ⟨a, 0, none⟩) cap 76 #[.pointer (some ⟨bi, 0, none⟩), .pointer (some ⟨bf, 0, none⟩)] (fun i => decide (i ≠ m)) (fun k W => isBlk W bi 3 #[.int .i64 ((k : Int) - 1)] ∧ Only bi w6 W) w6 (by omega) (enters_of Tryz.func76 (by kernel_rfl) rfl)
          (fun k W W' h e => ⟨(e.block bi I6.out.lt).trans h.1, ⟨e.os.trans h.2.os, e.tape.trans h.2.tape, e.output.trans h.2.output, Nat.le_trans h.2.size e.size, fun j hj hn => (e.block j hj).trans (h.2.block j hj hn)⟩⟩) (fun k W h => by
            obtain ⟨A2, c2, e2, hc2⟩ := own_read (own_apart O6.out h.2 (fun e => NA.out (Option.some.inj e)))
            cases e2
            exact hc2) (fun k W h => h.2.size) (fun k hk W h => by
            refine (room1_calls ps[k] k m bi bf W h.1 (h.2.blk F6.out NB.out) NB.out (by omega) (by omega)).mono ?_
            rintro e w' ⟨rfl, hi', ho', hk'⟩
            exact ⟨rfl, ⟨by rw [show ((k + 1 : Nat) : Int) - 1 = k by omega]; exact hi', h.2.trans ho'⟩, hk'⟩) ⟨I6.out, Only.refl _ _⟩)
        obtain ⟨s7, hs7⟩ : ∃ s7, s7 = selN (fun i => decide (i ≠ m)) ps ps.length := ⟨_, rfl⟩
        rw [← hs7] at RS SC
        clear hs7
        have z6 := (Y6.out.cell 0).trans rfl
        rw [← hw6]
        clear k0 k1 hw6
        go_wp2_with fail
        refine SC.out.mono ?_
        rintro e w7 ⟨v7, rfl, hO7, _, hon7⟩
        obtain ⟨A7, c7, rfl, _⟩ := own_read hO7
        have Y7 := Lib.hid (hon7.blk Y6.out NG.out)
        have O7 := Lib.hid (own_lowT hO7 (Nat.le_trans hBw EW.out.size))
        have N7 := Lib.hid (show ∀ b, A7 = some b → b.block ≠ g from fun b hb e => by
          have h1 := own_off hO7 b hb
          have h2 := Y6.out.lt
          omega)
        have E7 := Lib.hid (show Only g w w7 from ⟨hon7.os.trans EW.out.os, hon7.tape.trans EW.out.tape, hon7.output.trans EW.out.output, Nat.le_trans EW.out.size hon7.size, fun k hk hn => by
          have h2 : k ≠ bi := by have := GI.out; have := OB.out.size; have := ON.out.size; omega
          exact (hon7.block k (Nat.lt_of_lt_of_le hk EW.out.size) h2).trans (EW.out.block k hk)⟩)
        have k0 := Y7.out.frozen 0
        have k1 := (Y7.out.cell 0).trans rfl
        clear hO7 hon7 z6
        go_wp2_with fail
        go_end0
        rw [RS.out]
        refine ⟨rfl, _, Y7.out.put 0 _ rfl, own_far O7.out (fun e => ?_) _, E7.out.trans (Only.set _ _ _ _)⟩
        cases hA : A7 with
        | none => rw [hA] at e; cases e
        | some b =>
          rw [hA] at e
          exact N7.out b hA (Option.some.inj e)
end Go.Proofs.YtedjiaenodechaaGreatDoor
namespace Go.Proofs.YtedjiaenodechaaGreatDoor
open Go.RowKit Go.Shelf
attribute [local go_sem] yUpon strOf_toList
theorem InnerAt.apart {w w' : World} {g0 : Nat} {t0 : TypeId} {zs : Array Value} (e : Only g0 w w') (hx0 : isBlk w g0 t0 zs) (hs : ∀ z ∈ zs.toList, isSl z = true) (hn : t0 ≠ 107) {g : Nat} {t : Sp.T} (h : InnerAt w g t) : InnerAt w' g t := by
  induction h with
  | mk g t A B C c c' c'' gs hx hV hN hl hC hK ih =>
    refine .mk g t A B C c c' c'' gs (e.blk hx (fun h => ?_)) (hV.apart e hx0 hs) (Cells.apart hN e hx0 hs ?_) hl (Cells.apart hC e hx0 hs ?_) ih
    · rw [h] at hx
      rw [isBlk, show w.heap[g0]? = _ from hx0] at hx
      injection hx with hx
      injection hx with _ h5
      exact hn h5
    · intro u hu
      rw [strsC, List.getElem?_map] at hu
      cases hq : (t.kids.map (·.1))[0]? with
      | none => rw [hq] at hu; cases hu
      | some b => rw [hq] at hu; cases hu; rfl
    · intro u hu
      rw [ptrsC, List.getElem?_map] at hu
      cases hq : gs[0]? with
      | none => rw [hq] at hu; cases hu
      | some b => rw [hq] at hu; cases hu; rfl
theorem TreeAt.apart {w w' : World} {g0 : Nat} {t0 : TypeId} {zs : Array Value} (e : Only g0 w w') (hx0 : isBlk w g0 t0 zs) (hs : ∀ z ∈ zs.toList, isSl z = true) (hn : t0 ≠ 107) (hn2 : t0 ≠ 88) {v : Value} {o : Option Sp.T} (h : TreeAt w v o) : TreeAt w' v o := by
  rcases h with h | ⟨g, p, h1, h2, h3⟩
  · exact .inl h
  · refine .inr ⟨g, p, h1, e.blk h2 (fun h => ?_), ?_⟩
    · rw [h] at h2
      rw [isBlk, show w.heap[g0]? = _ from hx0] at h2
      injection h2 with h2
      injection h2 with _ h5
      exact hn2 h5
    · rcases h3 with h3 | ⟨g1, t, h4, h5, h6⟩
      · exact .inl h3
      · exact .inr ⟨g1, t, h4, h5, h6.apart e hx0 hs hn⟩
/-- Pins in memory. -/
def PinsAt (g : Nat) (w : World) (ps : List Pin) : Prop := ∃ v, isBlk w g 62 #[v] ∧ w.ownsRow 0 101 2 v ps.length (pinsC ps) ∧ ∀ x ∈ ps, TreeAt w (.pointer x.1) x.2.1 ∧ Tm x.2.2
theorem row_sl {w : World} {B n : Nat} {e : TypeId} {size : Nat} {v : Value} {xs : List Value} (h : w.ownsRow B e size v n xs) : ∀ z ∈ (#[v] : Array Value).toList, isSl z = true := by
  intro z hz
  obtain rfl := List.mem_singleton.1 hz
  obtain ⟨A, c, rfl, _⟩ := own_read h
  rfl
/-- What was a tree before pins changed is one still. -/
theorem PinsAt.tree {g : Nat} {w w' : World} {ps : List Pin} (h : PinsAt g w ps) (e : Only g w w') {v : Value} {o : Option Sp.T} (ht : TreeAt w v o) : TreeAt w' v o := by
  obtain ⟨u, h1, h2, _⟩ := h
  exact ht.apart e h1 (row_sl h2) (by decide) (by decide)
def clampS (n : Int) : Int := max 0 (min n 1099511627776)
theorem clamp_tm (n : Int) : Tm (clampS n) := by unfold clampS Tm; omega
theorem keys_only {g k t : Nat} {cs : Array Value} {w w' : World} (h : KeysAt w k) (e : Only g w w') (hx : isBlk w g t cs) (hs : ∀ z ∈ cs.toList, isSl z = true) : KeysAt w' k := fun i hi => by
  have h1 := h i hi
  have hne : k ≠ g := fun h2 => by
    rw [h2, hx.cell i] at h1
    have := hs _ (Array.mem_toList_iff.2 (Array.mem_of_getElem? h1))
    cases this
  have := e.block k (cell_lt h1) hne
  rw [World.cell?_of_block (a := ⟨k, i, none⟩) this]
  exact h1
theorem max_only {g t : Nat} {cs : Array Value} {w w' : World} (h : MaxAt w) (e : Only g w w') (hx : isBlk w g t cs) (hs : ∀ z ∈ cs.toList, isSl z = true) : MaxAt w' := by
  obtain ⟨m, h1⟩ := h
  have hne : 1 ≠ g := fun h2 => by
    rw [h2, hx.cell 0] at h1
    have := hs _ (Array.mem_toList_iff.2 (Array.mem_of_getElem? h1))
    cases this
  have := e.block _ (cell_lt h1) hne
  exact ⟨m, by rw [World.cell?_of_block (a := ⟨_, 0, none⟩) this]; exact h1⟩
theorem oldS_len (n : Int) (ps : List Pin) : (oldS n ps).length ≤ ps.length := List.length_filter_le _ _
theorem useP_len (d : Sp.Bs) (n : Int) (ps : List Pin) : (useP d n ps).length = ps.length := by
  unfold useP
  split
  · rw [List.length_modify]
  · rfl
theorem useP_mem {d : Sp.Bs} {n : Int} {ps : List Pin} {x : Pin} (h : x ∈ useP d n ps) : ∃ y ∈ ps, x = y ∨ x = touch n y := by
  unfold useP at h
  split at h
  · obtain ⟨i, hi, rfl⟩ := List.getElem_of_mem h
    rw [List.length_modify] at hi
    rw [List.getElem_modify]
    split
    · exact ⟨ps[i], List.getElem_mem hi, .inr rfl⟩
    · exact ⟨ps[i], List.getElem_mem hi, .inl rfl⟩
  · exact ⟨x, h, .inl rfl⟩
theorem selN_mem {p : Nat → Bool} {l : List Pin} {k : Nat} {x : Pin} (h : x ∈ selN p l k) : x ∈ l := by
  unfold selN at h
  obtain ⟨i, _, h2⟩ := List.mem_filterMap.1 h
  split at h2
  · exact List.mem_of_getElem? h2
  · cases h2
theorem roomS_mem {ps : List Pin} {x : Pin} (h : x ∈ roomS ps) : x ∈ ps := by
  unfold roomS at h
  split at h
  · exact h
  · exact selN_mem h
def putS (x : Option Addr × Option Sp.T) (n : Int) (ps : List Pin) : List Pin :=
  match useK (dgP (x.1, x.2, n)) (oldS n ps) with
  | some _ => useP (dgP (x.1, x.2, n)) n (oldS n ps)
  | none => roomS (oldS n ps) ++ [(x.1, x.2, n)]
end Go.Proofs.YtedjiaenodechaaGreatDoor
namespace Go.Proofs.YtedjiaenodechaaGreatDoor
open Go.RowKit Go.Shelf
attribute [local go_sem] yUpon strOf_toList
theorem only_chain {g : Nat} {a b c : World} (h : Only g a b) (e : Below a.heap.size b c) : Only g a c :=
  ⟨e.os.trans h.os, e.tape.trans h.tape, e.output.trans h.output, Nat.le_trans h.size e.size, fun k hk hn => (e.block k hk).trans (h.block k hk hn)⟩
theorem only_narrow {g : Nat} {a b c : World} (h : Only g a b) (e : Only g b c) : Only g a c := h.trans e
theorem oldS_tm {n : Int} {ps : List Pin} {x : Pin} (h : x ∈ oldS n ps) : x ∈ ps := (List.mem_filter.1 h).1
set_option maxRecDepth 100000 in
set_option maxHeartbeats 4000000 in
theorem put_calls (g : Nat) (ps : List Pin) (a : Option Addr) (o : Option Sp.T) (now : Int) (w : World) (hP : PinsAt g w ps) (hl : ps.length ≤ 900) (ht : TreeAt w (.pointer a) o) (K : KeysAt w 2) :
    Calls Tryz.prog 17 #[.pointer (some ⟨g, 0, none⟩), .pointer a, .int .i64 now] w fun e w' => e = .returned (.tuple #[]) ∧ PinsAt g w' (putS (a, o) (clampS now) ps) ∧ Only g w w' := by
  have PT := Lib.hid fun (w' : World) (e : Only g w w') (v : Value) (o : Option Sp.T) (h : TreeAt w v o) => hP.tree e h
  obtain ⟨v, hx, hO, hX⟩ := hP
  have HX := Lib.hid hX
  have GL := Lib.hid hx.lt
  have SL := Lib.hid (row_sl hO)
  have HT := Lib.hid ht
  have KK := Lib.hid fun (w' : World) (e : Only g w w') => keys_only K e hx (row_sl hO)
  obtain ⟨n, hn⟩ : ∃ n, n = clampS now := ⟨_, rfl⟩
  have TN := Lib.hid (show Tm n by rw [hn]; exact clamp_tm now)
  have CC := Lib.hid (show ∀ w, Calls Tryz.prog 48 #[.int .i64 now] w fun e w' => e = .returned (.int .i64 n) ∧ w = w' from fun w => by rw [hn]; exact clamp_calls now w)
  rw [← hn]
  obtain ⟨A, cap, rfl, _⟩ := own_read hO
  have OC := Lib.hid (old_calls g n ps _ w hx hO (by omega) TN.out (fun x h => (hX x h).2))
  clear hx hO hX ht K hn
  go_enter Tryz.func17, Tryz.ntmps17
  go_wp2_with fail
  refine (CC.out w).mono ?_
  rintro e w1 ⟨rfl, rfl⟩
  go_wp2_with fail
  refine OC.out.mono ?_
  rintro e w1 ⟨rfl, v1, hx1, hO1, hon1⟩
  obtain ⟨q, hq⟩ : ∃ q, q = oldS n ps := ⟨_, rfl⟩
  have QM := Lib.hid (show ∀ x ∈ q, x ∈ ps from fun x h => oldS_tm (by rw [← hq]; exact h))
  have QL := Lib.hid (show q.length ≤ 900 by rw [hq]; exact Nat.le_trans (oldS_len n ps) hl)
  have PS := Lib.hid (show putS (a, o) n ps = (match useK (dgP (a, o, n)) q with | some _ => useP (dgP (a, o, n)) n q | none => roomS q ++ [(a, o, n)]) by rw [hq]; rfl)
  rw [← hq] at hO1
  have X1 := Lib.hid hx1
  have O1 := Lib.hid hO1
  have N1 := Lib.hid hon1
  have T1 := Lib.hid (PT.out w1 hon1 _ _ HT.out)
  obtain ⟨d, hd⟩ : ∃ d, d = dgP (a, o, n) := ⟨_, rfl⟩
  have DL := Lib.hid (show d.length = 32 by rw [hd]; exact Sp.nsum_len _)
  have TR := Lib.hid (show ∀ W, Ext w1 W → Calls Tryz.prog 24 #[.pointer a] W fun e w' => e = .returned (digV d) ∧ Ext W w' from fun W e => by rw [hd]; exact troot_calls o (.pointer a) W (T1.out.ext e) ((KK.out w1 hon1).ext e))
  rw [← hd] at PS
  clear hx1 hO1 hon1 hq hd
  go_wp2_with fail
  refine (TR.out w1 (Ext.refl _)).mono ?_
  rintro e w2 ⟨rfl, hb2⟩
  have E2 := Lib.hid hb2
  have N2 := Lib.hid (N1.out.trans (Only.of_below g hb2))
  have UC := Lib.hid (use_calls g w.heap.size d DL.out n q v1 w2 (X1.out.below hb2) (own_ext O1.out hb2) (Nat.le_trans N1.out.size hb2.size) (by have := QL.out; omega) (fun x h => PT.out w2 (N1.out.trans (Only.of_below g hb2)) _ _ (HX.out x (QM.out x h)).1) (KK.out w2 (N1.out.trans (Only.of_below g hb2))))
  clear hb2
  go_wp2_with fail
  refine UC.out.mono ?_
  rintro e w3 ⟨rfl, hO3, hb3⟩
  have X3 := Lib.hid (show isBlk w3 g 62 #[v1] from (hb3.block g GL.out).trans (X1.out.below E2.out))
  have O3 := Lib.hid hO3
  have N3 := Lib.hid (only_chain N2.out hb3)
  have S3 := Lib.hid (Nat.le_trans N2.out.size hb3.size)
  clear hO3 hb3
  cases hu : useK d q with
  | some k =>
    have UI := Lib.hid (show useI d q = (k : Int) by rw [useI, hu])
    have PS2 := Lib.hid (show putS (a, o) n ps = useP d n q by rw [PS.out, hu])
    rw [UI.out]
    have e1 : ¬ (k : Int) < 0 := by omega
    clear hu
    go_wp2_with fail
    go_end0
    rw [PS2.out]
    refine ⟨rfl, ⟨v1, X3.out, by rw [useP_len]; exact own_lowT O3.out (Nat.zero_le _), fun x h => ?_⟩, N3.out⟩
    obtain ⟨y, hy, h2⟩ := useP_mem h
    have := HX.out y (QM.out y hy)
    rcases h2 with rfl | rfl
    · exact ⟨PT.out w3 N3.out _ _ this.1, this.2⟩
    · exact ⟨PT.out w3 N3.out _ _ this.1, TN.out⟩
  | none =>
    have UI := Lib.hid (show useI d q = -1 by rw [useI, hu])
    have PS2 := Lib.hid (show putS (a, o) n ps = roomS q ++ [(a, o, n)] by rw [PS.out, hu])
    have UP := Lib.hid (show useP d n q = q by rw [useP, hu])
    rw [UI.out]
    have RC := Lib.hid (room_calls g w.heap.size q v1 w3 X3.out (by have := O3.out; rwa [UP.out] at this) S3.out (by have := QL.out; omega))
    clear hu
    go_wp2_with fail
    refine RC.out.mono ?_
    rintro e w4 ⟨rfl, v4, hx4, hO4, hon4⟩
    obtain ⟨r, hr⟩ : ∃ r, r = roomS q := ⟨_, rfl⟩
    have RM := Lib.hid (show ∀ x ∈ r, x ∈ ps from fun x h => QM.out x (roomS_mem (by rw [← hr]; exact h)))
    have RL := Lib.hid (show r.length ≤ 900 from by
      have h1 : r.length ≤ q.length := by
        rw [hr]
        unfold roomS
        split
        · exact Nat.le_refl _
        · exact selN_len _ _ _
      exact Nat.le_trans h1 QL.out)
    rw [← hr] at hO4 PS2
    have X4 := Lib.hid hx4
    have O4 := Lib.hid hO4
    have N4 := Lib.hid (N3.out.trans hon4)
    have z0 := (hx4.cell 0).trans rfl
    have rl := RL.out
    obtain ⟨A4, c4, rfl, _⟩ := own_read hO4
    clear hx4 hO4 hon4 hr
    go_wp2_with (at_builtin; refine app_new appPin rfl _ _ rfl w.heap.size _ r.length _ rfl O4.out #[.pointer a, .int .i64 n] 101 1 rfl rfl (by intro u hu; simp at hu; rcases hu with rfl | rfl <;> rfl) (by decide) (by omega) (N4.out.size) ?_; intro g6 cap6 w6 hown6 hgr6 hb6 hbg6; have O6 := Lib.hid hown6; have B6 := Lib.hid hb6; have X6 := Lib.hid (show isBlk w6 g 62 #[.slice A4 r.length c4] from (hb6.block g GL.out).trans X4.out); have k0 := X6.out.frozen 0; have k1 := (X6.out.cell 0).trans rfl; clear hown6 hgr6 hb6 hbg6)
    go_end0
    have ON := Lib.hid ((only_chain N4.out B6.out).trans (Only.set g 0 (.slice (some ⟨g6, 0, none⟩) (r.length + 1) cap6) w6))
    rw [PS2.out]
    refine ⟨rfl, ⟨_, X6.out.put 0 _ rfl, ?_, fun x h => ?_⟩, ON.out⟩
    · rw [pinsC_snoc, List.length_append]
      refine own_far (own_lowT O6.out (Nat.zero_le _)) (fun e => ?_) _
      have e2 : g6 = g := Option.some.inj e
      have h1 := (own_off O6.out) _ rfl
      have h2 := GL.out
      simp only at h1
      omega
    · rcases List.mem_append.1 h with h | h
      · have := HX.out x (RM.out x h)
        exact ⟨PT.out _ ON.out _ _ this.1, this.2⟩
      · obtain rfl := List.mem_singleton.1 h
        exact ⟨PT.out _ ON.out _ _ HT.out, TN.out⟩
end Go.Proofs.YtedjiaenodechaaGreatDoor
