/- Walks: kids. Walks: vectors and leaves as bytes. Walks: versions and leaves as bytes. Walks: a text's digest. A slice of the call's own whose block bears a mark behind its end ('[]byte(s)'): one cell and one byte an element. -/
import Derived.Lib.FrozenHead
import Derived.Test.YtmlfnidckfeebaaGreatDoorRF008
namespace Go.Proofs.YtmlfnidckfeebaaGreatDoor
open Go.RowKit
attribute [local go_sem] yUpon strOf_toList
def kid0 : Array Value := (kidL ([], List.replicate 32 0)).toArray
theorem kid_one (k : Sp.Kid) : (kidL k).toArray.all (·.oneCell') = true := by
  apply all_oneCell_toArray
  intro u hu
  unfold kidL at hu
  rcases List.mem_cons.1 hu with rfl | hu
  · rfl
  · exact bytes_one _ u hu
set_option maxRecDepth 100000 in
set_option maxHeartbeats 4000000 in
theorem kids_calls (l : List Sp.Kid) (A : Option Addr) (cap : Nat) (w : World) (h : Kids w A l) :
    Calls Tryz.prog 312 #[.slice A l.length cap] w fun e w' => e = .returned (.int .i64 (Sp.kcheck l)) ∧ Ext w w' := by
  by_cases h128 : 128 < l.length
  · have F := Lib.hid (show Sp.kcheck l = 2 from if_pos h128)
    have c1 : (128 : Int) < (l.length : Int) := by omega
    go_enter Tryz.func312, Tryz.ntmps312
    go_wp2
    go_ret
    exact ⟨ret_int F.out.symm, Ext.refl _⟩
  · have F := Lib.hid (show Sp.kcheck l = Sp.kgo (Sp.pv l 0) (l.drop 0) from if_neg h128)
    have c1 : ¬ (128 : Int) < (l.length : Int) := by omega
    go_enter Tryz.func312, Tryz.ntmps312
    go_wp2
    go_loopw [10] (fun v10 wr => ∃ k : Nat, k ≤ l.length ∧ v10 = .int .i64 k ∧ Ext w wr ∧ Sp.kcheck l = Sp.kgo (Sp.pv l k) (l.drop k)) (fun v10 _ => l.length - (intOf v10).toNat)
    case atStart => exact ⟨0, Nat.zero_le _, rfl, Ext.refl _, F.out⟩
    case round =>
      obtain ⟨k, hk, rfl, hb, hf⟩ := hrel
      by_cases hlt : k < l.length
      · obtain ⟨g, o, rfl, hat⟩ := (h.ext hb).at (by omega)
        have hok := h.2 l[k] (List.getElem_mem hlt)
        rw [Sp.kgo_step l k hlt] at hf
        have hR := hat k hlt
        obtain ⟨kd, hkd⟩ : ∃ kd, kd = l[k] := ⟨_, rfl⟩
        rw [← hkd] at hf hok hR
        have HR := Lib.hid hR
        have KL := kidL_len kd hok.1
        have ka : ((kidL kd).toArray).size = 33 := by simp [KL]
        have k0 : ((kidL kd).toArray)[0]? = some (.string (strOf kd.1)) := rfl
        have HF := Lib.hid hf
        have HB := Lib.hid hb
        have HAT := Lib.hid hat
        have HLT := Lib.hid hlt
        have HKD := Lib.hid hkd
        clear hR hf hb hat hkd
        have tok2 : True := trivial
        have tok3 : True := trivial
        have tok4 : True := trivial
        go_wp2_with (first
          | (have _t2 := tok2; (with_reducible refine at_load (t := 268) rfl ?_); refine wpList_load_mid rfl _ _ rfl g (o + k * 33) rfl (kidL kd) _ HR.out Tryz.underlying268 rfl (by rw [KL]; kernel_rfl) ?_; clear tok2 _t2)
          | (have _t3 := tok3; ((with_reducible refine at_alloc (t := 268) rfl ?_); refine box_new rfl (cs := kid0) (t := 268) (by first | (go_simp; done) | (go_simp; rfl)) ?_; intro g4 w4 hg4 hx4 hb4; have H4 := Lib.hid hx4; have B4 := Lib.hid hb4; have GG4 := Lib.hid hg4; clear tok3 _t3 hx4 hb4 hg4))
          | (have _t4 := tok4; ((with_reducible refine at_store (t := 268) rfl ?_); refine wpList_store_row rfl _ _ _ rfl g4 (kidL kd).toArray rfl rfl 268 _ H4.out (by rw [ka]; kernel_rfl) (by rw [ka]; rfl) (kid_one kd) ?_; obtain ⟨w5, hw5⟩ : ∃ w5, w5 = w4.setRow g4 (kidL kd).toArray := ⟨_, rfl⟩; rw [← hw5]; have B5 := Lib.hid (show Ext wr w5 by rw [hw5]; exact below_setRow B4.out GG4.out _); have X5 := Lib.hid (show isBlk w5 g4 268 (kidL kd).toArray by rw [hw5]; exact setRow_heap _ _ _ _ _ _ H4.out); have f0 := (X5.out.cell 0).trans k0; clear hw5 tok4 _t4)))
        have NC := Lib.hid (name_calls (strOf kd.1) w5 (by rw [strOf_size]; omega))
        rw [strOf_data] at NC
        refine NC.out.mono ?_
        rintro e w6 ⟨rfl, rfl⟩
        have EW := Lib.hid (HB.out.trans B5.out)
        by_cases nm : Sp.name kd.1 = true
        · by_cases hk0 : 0 < k
          · obtain ⟨j, hj⟩ : ∃ j, k = j + 1 := ⟨k - 1, by omega⟩
            have q1 : IntKind.i64.wrap ((k : Int) - 1) = (j : Int) := by rw [IntWalk.i64_in _ (by omega)]; omega
            have b1 : (j : Int) < (l.length : Int) := by omega
            have b2 : (0 : Int) < (k : Int) := by omega
            have kj := kid_name (HAT.out j (by omega))
            obtain ⟨lj, hlj⟩ : ∃ lj, lj = (l[j]'(by omega)).1 := ⟨_, rfl⟩
            rw [← hlj] at kj
            have PV := Lib.hid (show Sp.pv l k = some lj by
              have hjl : j < l.length := by omega
              unfold Sp.pv
              rw [hlj, if_neg (by omega), show k - 1 = j by omega, List.getElem?_eq_getElem hjl]; rfl)
            have KJ := Lib.hid (B5.out.cell kj)
            clear hlj kj hj
            go_wp2_with fail
            refine wp_region_det (fun W => Ext w5 W) (by kernel_rfl) (by kernel_rfl) (Below.refl _ _).drew ?_
            repeat (first
              | (refine det_step (fun K hK => ?_)
                 apply Exists.intro
                 refine ⟨Or.inl ⟨rfl, fun W hS => ?_⟩, ?_⟩
                 · replace hS : Ext w5 W := hS
                   have z := X5.out.below hS; have f0 := (z.cell 0).trans k0; have f1 := hS.cell KJ.out
                   go_simp
                   first
                   | exact rfl
                   | exact ⟨rfl, hS⟩
                   | (fail)
                 go_simp
                 refine hK _ ?_
                 clear hK K)
              | (refine det_step (fun K hK => ?_); refine det_no' rfl ?_; go_simp; refine hK _ ?_; clear hK K))
            refine det_nil ?_
            intro W9 hS
            replace hS : Ext _ W9 := hS
            have F' := HF.out
            rw [if_neg (by rw [nm]; decide), PV.out] at F'
            have F'' := Lib.hid F'
            have HS := Lib.hid (EW.out.trans hS)
            clear F' hS
            go_wp2
            · rename_i hq
              have F' := F''.out
              have hle : Sp.le kd.1 lj = true := by unfold Sp.le; rcases hq with hq | hq <;> simp [hq]
              rw [if_pos (by simpa using hle)] at F'
              go_ret
              exact ⟨ret_int F'.symm, HS.out⟩
            · rename_i hq
              have F' := F''.out
              have hle : ¬ Sp.le kd.1 lj = true := by unfold Sp.le; rw [hq.1, hq.2]; decide
              rw [if_neg (by simpa using hle)] at F'
              go_roundw
              case rel => exact ⟨k + 1, by omega, by go_num, HS.out, F'⟩
              case measure => simp [intOf]; omega
          · obtain rfl : k = 0 := by omega
            have b2 : ¬ (0 : Int) < ((0 : Nat) : Int) := by decide
            go_wp2_with fail
            refine wp_region_det (fun W => Ext w5 W) (by kernel_rfl) (by kernel_rfl) (Below.refl _ _).drew ?_
            repeat (first
              | (refine det_step (fun K hK => ?_)
                 apply Exists.intro
                 refine ⟨Or.inl ⟨rfl, fun W hS => ?_⟩, ?_⟩
                 · replace hS : Ext w5 W := hS
                   have z := X5.out.below hS
                   go_simp
                   first
                   | exact rfl
                   | exact ⟨rfl, hS⟩
                   | (fail)
                 go_simp
                 refine hK _ ?_
                 clear hK K)
              | (refine det_step (fun K hK => ?_); refine det_no' rfl ?_; go_simp; refine hK _ ?_; clear hK K))
            refine det_nil ?_
            intro W9 hS
            replace hS : Ext _ W9 := hS
            have F' := HF.out
            rw [if_neg (by rw [nm]; decide), if_neg (by simp [Sp.pv])] at F'
            have HS := Lib.hid (EW.out.trans hS)
            go_wp2
            go_roundw
            case rel => exact ⟨0 + 1, by omega, by go_num, HS.out, F'⟩
            case measure => simp [intOf]; omega
        · have nf : Sp.name kd.1 = false := by simpa using nm
          have F' := HF.out
          rw [if_pos nf] at F'
          go_wp2
          go_ret
          exact ⟨ret_int F'.symm, EW.out⟩
      · obtain rfl : k = l.length := by omega
        have F' : Sp.kcheck l = 0 := by rw [hf, List.drop_length]; rfl
        go_wp2
        go_ret
        exact ⟨ret_int F'.symm, hb⟩
abbrev nodeV (A : Option Addr) (n cap : Nat) (B : Option Addr) (m cap' : Nat) : Value := .agg #[.slice A n cap, .slice B m cap']
set_option maxRecDepth 100000 in
set_option maxHeartbeats 4000000 in
theorem rncheck_calls (n : Sp.Node) (A B : Option Addr) (cap cap' : Nat) (w : World) (hV : Vers w A n.1) (hK : Kids w B n.2) :
    Calls Tryz.prog 226 #[nodeV A n.1.length cap B n.2.length cap'] w fun e w' => e = .returned (.int .i64 (Sp.ncheck n)) ∧ Ext w w' := by
  obtain ⟨vs, l⟩ := n
  obtain ⟨W0, hW0⟩ : ∃ W0, W0 = w.alloc (.cells #[.slice A vs.length cap, .slice B l.length cap'] 116) := ⟨_, rfl⟩
  have E0 := Lib.hid (show Ext w W0 by rw [hW0]; exact Ext.alloc _ _)
  obtain ⟨g0, hg0⟩ : ∃ g0, g0 = w.heap.size := ⟨_, rfl⟩
  have X0 := Lib.hid (show isBlk W0 g0 116 #[.slice A vs.length cap, .slice B l.length cap'] by rw [hW0, hg0]; exact box_at _ _ _)
  have LC := Lib.hid (rleaf_calls vs A cap W0 (hV.ext E0.out))
  have HW := Lib.hid hW0.symm
  have KK := Lib.hid hK
  clear hW0 hK
  go_enter Tryz.func226, Tryz.ntmps226
  go_wp2_with fail
  rw [HW.out, ← hg0]
  clear hg0
  refine LC.out.mono ?_
  rintro e W1 ⟨rfl, hb1⟩
  have E1 := Lib.hid (E0.out.trans hb1)
  have X1 := Lib.hid (X0.out.below hb1)
  have g0' := (X1.out.cell 0).trans rfl
  have g1' := (X1.out.cell 1).trans rfl
  clear hb1
  by_cases hl : Sp.leaf vs = 0
  · rw [hl]
    by_cases h128 : 128 < l.length
    · have F := Lib.hid (show Sp.ncheck (vs, l) = 2 by unfold Sp.ncheck; rw [if_neg (by simpa using hl)]; exact if_pos h128)
      have c1 : (128 : Int) < (l.length : Int) := by omega
      go_wp2
      go_ret
      exact ⟨ret_int F.out.symm, E1.out⟩
    · have F := Lib.hid (show Sp.ncheck (vs, l) = Sp.kgo (Sp.pv l 0) (l.drop 0) by unfold Sp.ncheck; rw [if_neg (by simpa using hl)]; exact if_neg h128)
      have c1 : ¬ (128 : Int) < (l.length : Int) := by omega
      go_wp2
      clear g0' g1'
      go_loopw [4] (fun v4 wr => ∃ k : Nat, k ≤ l.length ∧ v4 = .int .i64 k ∧ Ext w wr ∧ isBlk wr g0 116 #[.slice A vs.length cap, .slice B l.length cap'] ∧ Sp.ncheck (vs, l) = Sp.kgo (Sp.pv l k) (l.drop k)) (fun v4 _ => l.length - (intOf v4).toNat)
      case atStart => exact ⟨0, Nat.zero_le _, rfl, E1.out, X1.out, F.out⟩
      case round =>
        obtain ⟨k, hk, rfl, hb, hx, hf⟩ := hrel
        have g1' := (hx.cell 1).trans rfl
        have HX := Lib.hid hx
        have HB := Lib.hid hb
        clear hx
        by_cases hlt : k < l.length
        · obtain ⟨g, o, rfl, hat⟩ := (KK.out.ext hb).at (by have := hlt; exact Nat.lt_of_le_of_lt (Nat.zero_le _) hlt)
          have hok := KK.out.2 l[k] (List.getElem_mem hlt)
          rw [Sp.kgo_step l k hlt] at hf
          have kk := kid_name (hat k hlt)
          obtain ⟨nk, hnk⟩ : ∃ nk, nk = l[k].1 := ⟨_, rfl⟩
          have hkl : nk.length ≤ 1000000 := by rw [hnk]; exact hok.2
          rw [← hnk] at hf kk
          have HF := Lib.hid hf
          have HAT := Lib.hid hat
          have NC := Lib.hid (rname_calls (strOf nk) wr (by rw [strOf_size]; omega))
          rw [strOf_data] at NC
          have KW := Lib.hid kk
          clear hf hat hb hok hnk
          go_wp2_with fail
          refine NC.out.mono ?_
          rintro e w6 ⟨rfl, rfl⟩
          by_cases nm : Sp.name nk = true
          · by_cases hk0 : 0 < k
            · obtain ⟨j, hj⟩ : ∃ j, k = j + 1 := ⟨k - 1, by omega⟩
              have q1 : IntKind.i64.wrap ((k : Int) - 1) = (j : Int) := by rw [IntWalk.i64_in _ (by omega)]; omega
              have b1 : (j : Int) < (l.length : Int) := by omega
              have b2 : (0 : Int) < (k : Int) := by omega
              have kj := kid_name (HAT.out j (by omega))
              obtain ⟨lj, hlj⟩ : ∃ lj, lj = (l[j]'(by omega)).1 := ⟨_, rfl⟩
              rw [← hlj] at kj
              have PV := Lib.hid (show Sp.pv l k = some lj by
                have hjl : j < l.length := by omega
                unfold Sp.pv
                rw [hlj, if_neg (by omega), show k - 1 = j by omega, List.getElem?_eq_getElem hjl]; rfl)
              have KJ := Lib.hid kj
              clear hlj kj hj
              go_wp2_with fail
              refine wp_region_det (fun W => Ext wr W) (by kernel_rfl) (by kernel_rfl) (Below.refl _ _).drew ?_
              repeat (first
                | (refine det_step (fun K hK => ?_)
                   apply Exists.intro
                   refine ⟨Or.inl ⟨rfl, fun W hS => ?_⟩, ?_⟩
                   · replace hS : Ext wr W := hS
                     have f0 := hS.cell KW.out; have f1 := hS.cell KJ.out; have f2 := hS.cell g1'
                     go_simp
                     first
                     | exact rfl
                     | exact ⟨rfl, hS⟩
                     | (fail)
                   go_simp
                   refine hK _ ?_
                   clear hK K)
                | (refine det_step (fun K hK => ?_); refine det_no' rfl ?_; go_simp; refine hK _ ?_; clear hK K))
              refine det_nil ?_
              intro W9 hS
              replace hS : Ext _ W9 := hS
              have F' := HF.out
              rw [if_neg (by rw [nm]; decide), PV.out] at F'
              have F'' := Lib.hid F'
              have HS := Lib.hid (HB.out.trans hS)
              have HX' := Lib.hid (HX.out.below hS)
              clear F' hS
              go_wp2
              · rename_i hq
                have F' := F''.out
                have hle : Sp.le nk lj = true := by unfold Sp.le; rcases hq with hq | hq <;> simp [hq]
                rw [if_pos (by simpa using hle)] at F'
                go_ret
                exact ⟨ret_int F'.symm, HS.out⟩
              · rename_i hq
                have F' := F''.out
                have hle : ¬ Sp.le nk lj = true := by unfold Sp.le; rw [hq.1, hq.2]; decide
                rw [if_neg (by simpa using hle)] at F'
                go_roundw
                case rel => exact ⟨k + 1, by omega, by go_num, HS.out, HX'.out, F'⟩
                case measure => simp [intOf]; omega
            · obtain rfl : k = 0 := by omega
              have b2 : ¬ (0 : Int) < ((0 : Nat) : Int) := by decide
              go_wp2_with fail
              refine wp_region_det (fun W => Ext wr W) (by kernel_rfl) (by kernel_rfl) (Below.refl _ _).drew ?_
              repeat (first
                | (refine det_step (fun K hK => ?_)
                   apply Exists.intro
                   refine ⟨Or.inl ⟨rfl, fun W hS => ?_⟩, ?_⟩
                   · replace hS : Ext wr W := hS
                     have f2 := hS.cell g1'
                     go_simp
                     first
                     | exact rfl
                     | exact ⟨rfl, hS⟩
                     | (fail)
                   go_simp
                   refine hK _ ?_
                   clear hK K)
                | (refine det_step (fun K hK => ?_); refine det_no' rfl ?_; go_simp; refine hK _ ?_; clear hK K))
              refine det_nil ?_
              intro W9 hS
              replace hS : Ext _ W9 := hS
              have F' := HF.out
              rw [if_neg (by rw [nm]; decide), if_neg (by simp [Sp.pv])] at F'
              have HS := Lib.hid (HB.out.trans hS)
              have HX' := Lib.hid (HX.out.below hS)
              go_wp2
              go_roundw
              case rel => exact ⟨0 + 1, by omega, by go_num, HS.out, HX'.out, F'⟩
              case measure => simp [intOf]; omega
          · have nf : Sp.name nk = false := by simpa using nm
            have F' := HF.out
            rw [if_pos nf] at F'
            go_wp2
            go_ret
            exact ⟨ret_int F'.symm, HB.out⟩
        · obtain rfl : k = l.length := by omega
          have F' : Sp.ncheck (vs, l) = 0 := by rw [hf, List.drop_length]; rfl
          go_wp2
          go_ret
          exact ⟨ret_int F'.symm, hb⟩
  · have F := Lib.hid (show Sp.ncheck (vs, l) = Sp.leaf vs by unfold Sp.ncheck; exact if_pos (by simpa using hl))
    go_wp2
    go_ret
    exact ⟨ret_int F.out.symm, E1.out⟩
end Go.Proofs.YtmlfnidckfeebaaGreatDoor
namespace Go.Proofs.YtmlfnidckfeebaaGreatDoor
open Go.RowKit Go.Shelf
set_option maxRecDepth 100000 in
set_option maxHeartbeats 2000000 in
theorem putvec1_calls (B g k : Nat) (x : Sp.W) (d : Sp.Dot) (w : World) (h : IsWr B g x w) (hk : isBlk w k 170 #[.pointer (some ⟨g, 0, none⟩)]) (hlen : x.1.length ≤ 10000000000000) (hBw : B ≤ w.heap.size) :
    Calls Tryz.prog 189 #[dotV d, .pointer (some ⟨k, 0, none⟩)] w fun e w' => e = .returned (.tuple #[]) ∧ WTo B g (Sp.wdot d x) w w' := by
  have C := Lib.hid (putdot_calls B g x d (w.alloc (.cells #[.int .i64 d.1, .int .i64 d.2] 68)) (h.below (Ext.alloc _ _)) hlen (by simp; omega))
  have HB := Lib.hid hBw
  have z := hk.below (Ext.alloc w (.cells #[.int .i64 d.1, .int .i64 d.2] 68))
  have c0 := (z.cell 0).trans rfl
  clear h hBw z hk
  go_enter Tryz.func189, Tryz.ntmps189
  go_wp2_with fail
  refine C.out.mono ?_
  rintro e w1 ⟨rfl, hw⟩
  have HW := Lib.hid hw
  clear hw
  go_wp2_with fail
  go_end0
  exact ⟨rfl, HW.out.wr, ((Below.refl B w).alloc HB.out _).trans HW.out.below, (Kept.below (Ext.alloc _ _)).trans HW.out.kept, by have := HW.out.size; rw [World.size_alloc] at this; omega⟩
set_option maxRecDepth 100000 in
set_option maxHeartbeats 4000000 in
theorem listdot_calls (w0 : World) (g k : Nat) (x : Sp.W) (l : List Sp.Dot) (A : Option Addr) (cap : Nat) (w : World) (E : Ext w0 w) (h : IsWr w0.heap.size g x w) (hD : Dots w0 A l) (hl : l.length ≤ 1000000) (hk : isBlk w k 170 #[.pointer (some ⟨g, 0, none⟩)]) (hlen : x.1.length ≤ 1000000000000) :
    Calls Tryz.prog 188 #[.pointer (some ⟨g, 0, none⟩), .slice A l.length cap, .func (.func 189) #[] #[.pointer (some ⟨k, 0, none⟩)]] w fun e w' => e = .returned (.tuple #[]) ∧ WTo w0.heap.size g (Sp.wdots l (Sp.wnum l.length x)) w w' := by
  have N := Lib.hid (wnum_calls w0.heap.size g x l.length w h (by omega) E.size)
  have HK := Lib.hid hk
  have hx1 := Sp.wnum_len (l.length : Int) x
  obtain ⟨y, hy⟩ : ∃ y, y = Sp.wnum (l.length : Int) x := ⟨_, rfl⟩
  rw [← hy] at N hx1 ⊢
  clear h hk hy
  go_enter Tryz.func188, Tryz.ntmps188
  go_wp2_with fail
  refine N.out.mono ?_
  rintro e w1 ⟨rfl, hw1, hb1, hk1, hs1⟩
  have W1 := Lib.hid (show WTo w0.heap.size g y w w1 from ⟨hw1, hb1, hk1, hs1⟩)
  clear hw1 hb1 hk1 hs1
  go_wp2_with fail
  go_loopw [14] (fun v14 wr => ∃ i : Nat, i ≤ l.length ∧ v14 = .int .i64 i ∧ WTo w0.heap.size g (Sp.wdots (l.take i) y) w wr) (fun v14 _ => l.length - (intOf v14).toNat)
  case atStart => exact ⟨0, Nat.zero_le _, rfl, W1.out⟩
  case round =>
    obtain ⟨i, hi, rfl, hw⟩ := hrel
    by_cases hlt : i < l.length
    · have eW := hw.ext E
      obtain ⟨ga, o, rfl, hc⟩ := (hD.ext eW).at (by omega)
      obtain ⟨c1, c2⟩ := hc i hlt
      have hyl := Sp.wdots_len (l.take i) y
      rw [List.length_take] at hyl
      have C := Lib.hid (putvec1_calls w0.heap.size g k (Sp.wdots (l.take i) y) l[i] (wr.alloc (.cells #[.int .i64 l[i].1, .int .i64 l[i].2] 68)) (hw.wr.below (Ext.alloc _ _)) ((hw.kept _ _ _ HK.out (by decide) (by decide)).below (Ext.alloc _ _)) (by omega) (by have := eW.size; simp; omega))
      have ST := Lib.hid (show Sp.wdots (l.take (i + 1)) y = Sp.wdot l[i] (Sp.wdots (l.take i) y) by rw [List.take_succ_eq_append_getElem hlt, Sp.wdots_snoc])
      have HW := Lib.hid hw
      have EW := Lib.hid eW.size
      clear hc hw eW hyl
      go_wp2_with (go_at_call 189; refine C.out.mono ?_; rintro e w2 ⟨rfl, hw2⟩; have H2 := Lib.hid hw2; clear hw2)
      go_roundw
      case rel =>
        refine ⟨i + 1, by omega, by go_num, by rw [ST.out]; exact H2.out.wr, ?_, ?_, ?_⟩
        · exact H2.out.below.from (HW.out.below.trans ((Below.refl _ _).alloc EW.out _))
        · exact HW.out.kept.trans ((Kept.below (Ext.alloc _ _)).trans H2.out.kept)
        · have := H2.out.size; have := HW.out.size; rw [World.size_alloc] at *; omega
      case measure => simp [intOf]; omega
    · obtain rfl : i = l.length := by omega
      rw [List.take_length] at hw
      have HW := Lib.hid hw
      clear hw
      go_wp2_with fail
      go_end0
      exact ⟨rfl, HW.out⟩
set_option maxRecDepth 100000 in
set_option maxHeartbeats 4000000 in
theorem putvec_calls (w0 : World) (g : Nat) (x : Sp.W) (l : List Sp.Dot) (A : Option Addr) (cap : Nat) (w : World) (E : Ext w0 w) (h : IsWr w0.heap.size g x w) (hD : Dots w0 A l) (hl : l.length ≤ 140737488351232) (hlen : x.1.length ≤ 100000000000) :
    Calls Tryz.prog 121 #[.pointer (some ⟨g, 0, none⟩), .slice A l.length cap] w fun e w' => e = .returned (.tuple #[]) ∧ WTo w0.heap.size g (Sp.wvec l x) w w' := by
  obtain ⟨W0, hW0⟩ : ∃ W0, W0 = w.alloc (.cells #[.pointer (some ⟨g, 0, none⟩)] 170) := ⟨_, rfl⟩
  have HBX := Lib.hid (show isBlk W0 w.heap.size 170 #[.pointer (some ⟨g, 0, none⟩)] by rw [hW0]; exact box_at _ _ _)
  have E0 := Lib.hid (show Ext w W0 by rw [hW0]; exact Ext.alloc _ _)
  have HW := Lib.hid hW0.symm
  have CK := Lib.hid (vcheck_calls l A cap W0 (hD.ext (E.trans E0.out)) hl)
  have HI := Lib.hid (h.below E0.out)
  clear hW0
  by_cases hz : Sp.vcheck l = 0
  · have F := Lib.hid (show Sp.wvec l x = Sp.wdots l (Sp.wnum l.length x) from if_neg (by simpa using hz))
    have L := Lib.hid fun W (e : Ext W0 W) => listdot_calls w0 g w.heap.size x l A cap W (E.trans (E0.out.trans e)) (HI.out.below e) hD (by have := Sp.vcheck_len hz; omega) (HBX.out.below e) (by omega)
    rw [hz] at CK
    clear hz h
    go_enter Tryz.func121, Tryz.ntmps121
    go_wp2_with fail
    rw [HW.out]
    refine CK.out.mono ?_
    rintro e w1 ⟨rfl, hb1⟩
    have c0 := ((HBX.out.below hb1).cell 0).trans rfl
    have B1 := Lib.hid hb1
    clear hb1
    go_wp2_with fail
    refine (L.out w1 B1.out).mono ?_
    rintro e w2 ⟨rfl, hw2⟩
    have H2 := Lib.hid hw2
    clear hw2 c0
    go_wp2_with fail
    go_end0
    have e1 := E0.out.trans B1.out
    exact ⟨rfl, by rw [F.out]; exact H2.out.wr, (Below.mono e1 E.size).trans H2.out.below, (Kept.below e1).trans H2.out.kept, Nat.le_trans e1.size H2.out.size⟩
  · have F := Lib.hid (show Sp.wvec l x = Sp.wfail (Sp.vcheck l) x from if_pos hz)
    have L := Lib.hid fun W (e : Ext W0 W) => wfail_calls w0.heap.size g x (Sp.vcheck l) W (HI.out.below e)
    have b1 : (Sp.vcheck l != 0) = true := by simpa using hz
    clear hz h
    go_enter Tryz.func121, Tryz.ntmps121
    go_wp2_with fail
    rw [HW.out]
    refine CK.out.mono ?_
    rintro e w1 ⟨rfl, hb1⟩
    have c0 := ((HBX.out.below hb1).cell 0).trans rfl
    have B1 := Lib.hid hb1
    clear hb1
    go_wp2_with fail
    refine (L.out w1 B1.out).mono ?_
    rintro e w2 ⟨rfl, hw2, hb2, hk2, hs2⟩
    go_wp2_with fail
    refine bodyPost_ret (results_none rfl _ _ _) rfl ?_
    have e1 := E0.out.trans B1.out
    exact ⟨rfl, by rw [F.out]; exact hw2, (Below.mono e1 E.size).trans hb2, (Kept.below e1).trans hk2, Nat.le_trans e1.size hs2⟩
set_option maxRecDepth 100000 in
set_option maxHeartbeats 4000000 in
theorem putver_calls (w0 : World) (g : Nat) (x : Sp.W) (v : Sp.Ver) (A : Option Addr) (cap : Nat) (w : World) (E : Ext w0 w) (h : IsWr w0.heap.size g x w) (hP : Past w0 A v) (hd : v.data.length ≤ 4000000000) (hlen : x.1.length ≤ 10000000000) :
    Calls Tryz.prog 251 #[.pointer (some ⟨g, 0, none⟩), verV A cap v] w fun e w' => e = .returned (.tuple #[]) ∧ WTo w0.heap.size g (Sp.wver v x) w w' := by
  obtain ⟨W0, hW0⟩ : ∃ W0, W0 = w.alloc (.cells (verC A cap v) 71) := ⟨_, rfl⟩
  have HBX := Lib.hid (show isBlk W0 w.heap.size 71 (verC A cap v) by rw [hW0]; exact box_at _ _ _)
  have E0 := Lib.hid (show Ext w W0 by rw [hW0]; exact Ext.alloc _ _)
  have HW := Lib.hid hW0.symm
  have l1 := Sp.wdot_len v.dot x
  have l2 := Sp.wvec_len v.past (Sp.wdot v.dot x)
  have l3 := Sp.wflag_len v.dead (Sp.wvec v.past (Sp.wdot v.dot x))
  have C1 := Lib.hid (putdot_calls w0.heap.size g x v.dot W0 (h.below E0.out) (by omega) (Nat.le_trans E.size E0.out.size))
  have C2 := Lib.hid fun W (e : Ext w0 W) (hw : IsWr w0.heap.size g (Sp.wdot v.dot x) W) => putvec_calls w0 g _ v.past A cap W e hw hP.1 hP.2 (by omega)
  have C3 := Lib.hid fun W (e : Ext w0 W) (hw : IsWr w0.heap.size g (Sp.wvec v.past (Sp.wdot v.dot x)) W) => wflag_calls w0.heap.size g _ v.dead W hw (by omega) e.size
  have C4 := Lib.hid fun W (e : Ext w0 W) (hw : IsWr w0.heap.size g (Sp.wflag v.dead (Sp.wvec v.past (Sp.wdot v.dot x))) W) => wtext_calls w0.heap.size g _ (strOf v.data) W hw (by omega) (by rw [strOf_size]; omega) e.size
  have EE := Lib.hid (E.trans E0.out)
  rw [strOf_data] at C4
  clear h hW0 hP l1 l2 l3
  go_enter Tryz.func251, Tryz.ntmps251
  go_wp2_with fail
  rw [HW.out]
  refine C1.out.mono ?_
  rintro e w1 ⟨rfl, hw1⟩
  have H1 := Lib.hid hw1
  have E1 := Lib.hid (hw1.ext EE.out)
  have z1 := hw1.kept _ _ _ HBX.out (by decide) (by decide)
  have c2 := (z1.cell 2).trans rfl
  have Z1 := Lib.hid z1
  clear hw1 z1
  go_wp2_with fail
  refine (C2.out w1 E1.out H1.out.wr).mono ?_
  rintro e w2 ⟨rfl, hw2⟩
  have H2 := Lib.hid hw2
  have E2 := Lib.hid (hw2.ext E1.out)
  have z2 := hw2.kept _ _ _ Z1.out (by decide) (by decide)
  have c3 := (z2.cell 3).trans rfl
  have Z2 := Lib.hid z2
  clear hw2 z2 c2
  go_wp2_with fail
  refine (C3.out w2 E2.out H2.out.wr).mono ?_
  rintro e w3 ⟨rfl, hw3⟩
  have H3 := Lib.hid hw3
  have E3 := Lib.hid (hw3.ext E2.out)
  have z3 := hw3.kept _ _ _ Z2.out (by decide) (by decide)
  have c4 := (z3.cell 4).trans rfl
  clear hw3 z3 c3
  go_wp2_with fail
  refine (C4.out w3 E3.out H3.out.wr).mono ?_
  rintro e w4 ⟨rfl, hw4, hb4, hk4, hs4⟩
  go_wp2_with fail
  go_end0
  exact ⟨rfl, hw4, (((Below.mono E0.out E.size).trans H1.out.below).trans (H2.out.below.trans H3.out.below)).trans hb4, (((Kept.below E0.out).trans H1.out.kept).trans (H2.out.kept.trans H3.out.kept)).trans hk4, Nat.le_trans E0.out.size (Nat.le_trans H1.out.size (Nat.le_trans H2.out.size (Nat.le_trans H3.out.size hs4)))⟩
set_option maxRecDepth 100000 in
set_option maxHeartbeats 2000000 in
theorem putleaf1_calls (w0 : World) (g k : Nat) (x : Sp.W) (v : Sp.Ver) (A : Option Addr) (cap : Nat) (w : World) (E : Ext w0 w) (h : IsWr w0.heap.size g x w) (hP : Past w0 A v) (hd : v.data.length ≤ 4000000000) (hk : isBlk w k 170 #[.pointer (some ⟨g, 0, none⟩)]) (hlen : x.1.length ≤ 10000000000) :
    Calls Tryz.prog 250 #[verV A cap v, .pointer (some ⟨k, 0, none⟩)] w fun e w' => e = .returned (.tuple #[]) ∧ WTo w0.heap.size g (Sp.wver v x) w w' := by
  have e0 := Ext.alloc w (.cells (verC A cap v) 71)
  have C := Lib.hid (putver_calls w0 g x v A cap (w.alloc (.cells (verC A cap v) 71)) (E.trans e0) (h.below e0) hP hd hlen)
  have HE := Lib.hid E.size
  have z := hk.below e0
  have c0 := (z.cell 0).trans rfl
  clear h z hk hP e0
  go_enter Tryz.func250, Tryz.ntmps250
  go_wp2_with fail
  refine C.out.mono ?_
  rintro e w1 ⟨rfl, hw⟩
  have HW := Lib.hid hw
  clear hw
  go_wp2_with fail
  go_end0
  exact ⟨rfl, HW.out.wr, ((Below.refl _ w).alloc HE.out _).trans HW.out.below, (Kept.below (Ext.alloc _ _)).trans HW.out.kept, by have := HW.out.size; rw [World.size_alloc] at this; omega⟩
set_option maxRecDepth 100000 in
set_option maxHeartbeats 4000000 in
theorem listver_calls (w0 : World) (g k : Nat) (x : Sp.W) (l : List Sp.Ver) (A : Option Addr) (cap : Nat) (w : World) (E : Ext w0 w) (h : IsWr w0.heap.size g x w) (hD : Vers w0 A l) (hl : l.length ≤ 64) (hd : ∀ v ∈ l, v.data.length ≤ 48) (hk : isBlk w k 170 #[.pointer (some ⟨g, 0, none⟩)]) (hlen : x.1.length ≤ 1000000000) :
    Calls Tryz.prog 249 #[.pointer (some ⟨g, 0, none⟩), .slice A l.length cap, .func (.func 250) #[] #[.pointer (some ⟨k, 0, none⟩)]] w fun e w' => e = .returned (.tuple #[]) ∧ WTo w0.heap.size g (Sp.wvers l (Sp.wnum l.length x)) w w' := by
  have N := Lib.hid (wnum_calls w0.heap.size g x l.length w h (by omega) E.size)
  have HK := Lib.hid hk
  have hx1 := Sp.wnum_len (l.length : Int) x
  obtain ⟨y, hy⟩ : ∃ y, y = Sp.wnum (l.length : Int) x := ⟨_, rfl⟩
  rw [← hy] at N hx1 ⊢
  clear h hk hy
  go_enter Tryz.func249, Tryz.ntmps249
  go_wp2_with fail
  refine N.out.mono ?_
  rintro e w1 ⟨rfl, hw1, hb1, hk1, hs1⟩
  have W1 := Lib.hid (show WTo w0.heap.size g y w w1 from ⟨hw1, hb1, hk1, hs1⟩)
  clear hw1 hb1 hk1 hs1
  go_wp2_with fail
  go_loopw [14] (fun v14 wr => ∃ i : Nat, i ≤ l.length ∧ v14 = .int .i64 i ∧ WTo w0.heap.size g (Sp.wvers (l.take i) y) w wr) (fun v14 _ => l.length - (intOf v14).toNat)
  case atStart => exact ⟨0, Nat.zero_le _, rfl, W1.out⟩
  case round =>
    obtain ⟨i, hi, rfl, hw⟩ := hrel
    by_cases hlt : i < l.length
    · have eW := hw.ext E
      obtain ⟨ga, o, rfl, hc⟩ := hD.at (by omega)
      obtain ⟨A', c', hvc, hp⟩ := hc i hlt
      obtain ⟨c0, c1, c2, c3, c4⟩ := hvc.ext eW
      have hyl := Sp.wvers_len (l.take i) 48 (fun v hv => hd v (List.mem_of_mem_take hv)) y
      rw [List.length_take] at hyl
      have hyb : (661 + 48) * min i l.length ≤ (661 + 48) * 64 := Nat.mul_le_mul_left _ (by omega)
      have e0 := Ext.alloc wr (.cells (verC A' c' l[i]) 71)
      have hdi := hd l[i] (List.getElem_mem hlt)
      have C := Lib.hid (putleaf1_calls w0 g k (Sp.wvers (l.take i) y) l[i] A' c' (wr.alloc (.cells (verC A' c' l[i]) 71)) (eW.trans e0) (hw.wr.below e0) hp (by omega) ((hw.kept _ _ _ HK.out (by decide) (by decide)).below e0) (by omega))
      have ST := Lib.hid (show Sp.wvers (l.take (i + 1)) y = Sp.wver l[i] (Sp.wvers (l.take i) y) by rw [List.take_succ_eq_append_getElem hlt, Sp.wvers_snoc])
      have HW := Lib.hid hw
      have EW := Lib.hid eW.size
      clear hc hw eW hyl hyb hvc hp e0 hdi
      go_wp2_with (go_at_call 250; refine C.out.mono ?_; rintro e w2 ⟨rfl, hw2⟩; have H2 := Lib.hid hw2; clear hw2)
      go_roundw
      case rel =>
        refine ⟨i + 1, by omega, by go_num, by rw [ST.out]; exact H2.out.wr, ?_, ?_, ?_⟩
        · exact H2.out.below.from (HW.out.below.trans ((Below.refl _ _).alloc EW.out _))
        · exact HW.out.kept.trans ((Kept.below (Ext.alloc _ _)).trans H2.out.kept)
        · have := H2.out.size; have := HW.out.size; rw [World.size_alloc] at *; omega
      case measure => simp [intOf]; omega
    · obtain rfl : i = l.length := by omega
      rw [List.take_length] at hw
      have HW := Lib.hid hw
      clear hw
      go_wp2_with fail
      go_end0
      exact ⟨rfl, HW.out⟩
set_option maxRecDepth 100000 in
set_option maxHeartbeats 4000000 in
theorem putleaf_calls (w0 : World) (g : Nat) (x : Sp.W) (l : List Sp.Ver) (A : Option Addr) (cap : Nat) (w : World) (E : Ext w0 w) (h : IsWr w0.heap.size g x w) (hD : Vers w0 A l) (hlen : x.1.length ≤ 100000000) :
    Calls Tryz.prog 192 #[.pointer (some ⟨g, 0, none⟩), .slice A l.length cap] w fun e w' => e = .returned (.tuple #[]) ∧ WTo w0.heap.size g (Sp.wleaf l x) w w' := by
  obtain ⟨W0, hW0⟩ : ∃ W0, W0 = w.alloc (.cells #[.pointer (some ⟨g, 0, none⟩)] 170) := ⟨_, rfl⟩
  have HBX := Lib.hid (show isBlk W0 w.heap.size 170 #[.pointer (some ⟨g, 0, none⟩)] by rw [hW0]; exact box_at _ _ _)
  have E0 := Lib.hid (show Ext w W0 by rw [hW0]; exact Ext.alloc _ _)
  have HW := Lib.hid hW0.symm
  have CK := Lib.hid (leaf_calls l A cap W0 (hD.ext (E.trans E0.out)))
  have HI := Lib.hid (h.below E0.out)
  clear hW0
  by_cases hz : Sp.leaf l = 0
  · have F := Lib.hid (show Sp.wleaf l x = Sp.wvers l (Sp.wnum l.length x) from if_neg (by simpa using hz))
    have L := Lib.hid fun W (e : Ext W0 W) => listver_calls w0 g w.heap.size x l A cap W (E.trans (E0.out.trans e)) (HI.out.below e) hD (Sp.leaf_ok hz).1 (Sp.leaf_data hz) (HBX.out.below e) (by omega)
    rw [hz] at CK
    clear hz h
    go_enter Tryz.func192, Tryz.ntmps192
    go_wp2_with fail
    rw [HW.out]
    refine CK.out.mono ?_
    rintro e w1 ⟨rfl, hb1⟩
    have c0 := ((HBX.out.below hb1).cell 0).trans rfl
    have B1 := Lib.hid hb1
    clear hb1
    go_wp2_with fail
    refine (L.out w1 B1.out).mono ?_
    rintro e w2 ⟨rfl, hw2⟩
    have H2 := Lib.hid hw2
    clear hw2 c0
    go_wp2_with fail
    go_end0
    have e1 := E0.out.trans B1.out
    exact ⟨rfl, by rw [F.out]; exact H2.out.wr, (Below.mono e1 E.size).trans H2.out.below, (Kept.below e1).trans H2.out.kept, Nat.le_trans e1.size H2.out.size⟩
  · have F := Lib.hid (show Sp.wleaf l x = Sp.wfail (Sp.leaf l) x from if_pos hz)
    have L := Lib.hid fun W (e : Ext W0 W) => wfail_calls w0.heap.size g x (Sp.leaf l) W (HI.out.below e)
    have b1 : (Sp.leaf l != 0) = true := by simpa using hz
    clear hz h
    go_enter Tryz.func192, Tryz.ntmps192
    go_wp2_with fail
    rw [HW.out]
    refine CK.out.mono ?_
    rintro e w1 ⟨rfl, hb1⟩
    have c0 := ((HBX.out.below hb1).cell 0).trans rfl
    have B1 := Lib.hid hb1
    clear hb1
    go_wp2_with fail
    refine (L.out w1 B1.out).mono ?_
    rintro e w2 ⟨rfl, hw2, hb2, hk2, hs2⟩
    go_wp2_with fail
    refine bodyPost_ret (results_none rfl _ _ _) rfl ?_
    have e1 := E0.out.trans B1.out
    exact ⟨rfl, by rw [F.out]; exact hw2, (Below.mono e1 E.size).trans hb2, (Kept.below e1).trans hk2, Nat.le_trans e1.size hs2⟩
end Go.Proofs.YtmlfnidckfeebaaGreatDoor
namespace Go.Proofs.YtmlfnidckfeebaaGreatDoor
open Go.RowKit
namespace Sp
theorem sha_split (l : Bs) : digest (mixN ((l.drop (64 * (l.length / 64)) ++ padding (l.drop (64 * (l.length / 64))).length l.length).length / 64) (mixN (l.length / 64) start l) (l.drop (64 * (l.length / 64)) ++ padding (l.drop (64 * (l.length / 64))).length l.length)) = sha l := by
  unfold sha
  congr 1
  have hd : (l.drop (64 * (l.length / 64))).length = l.length % 64 := by rw [List.length_drop]; omega
  have hp : padding (l.drop (64 * (l.length / 64))).length l.length = padding l.length l.length := by
    unfold padding; rw [hd, Nat.mod_mod]
  rw [hp]
  have e1 : l.drop (64 * (l.length / 64)) ++ padding l.length l.length = (pad l).drop (64 * (l.length / 64)) := by
    unfold pad; rw [List.drop_append_of_le_length (by omega)]
  have e2 : mixN (l.length / 64) start l = mixN (l.length / 64) start (pad l) := by
    unfold pad; rw [mixN_pre _ _ _ _ (by omega)]
  have e3 : (pad l).length / 64 = l.length / 64 + ((pad l).drop (64 * (l.length / 64))).length / 64 := by
    have : l.length ≤ (pad l).length := by unfold pad; rw [List.length_append]; omega
    rw [List.length_drop]; omega
  rw [e1, e2, e3, mixN_add]
end Sp
set_option maxRecDepth 100000 in
set_option maxHeartbeats 4000000 in
theorem sha_calls (l : Sp.Bs) (w : World) (hl : l.length ≤ 4000000000) (K : KeysAt w 2) :
    Calls Tryz.prog 262 #[.string (strOf l)] w fun e w' => e = .returned (digV (Sp.sha l)) ∧ Ext w w' := by
  have FF := Lib.hid (Sp.sha_split l)
  have hds := digC_size (Sp.sha l)
  have hsl := Sp.sha_len l
  obtain ⟨arr, ha⟩ : ∃ arr, arr = digC (Sp.sha l) := ⟨_, rfl⟩
  have HA := Lib.hid ha
  rw [← ha] at hds
  have w1 : arr.all (·.oneCell') = true := by rw [ha]; exact all_oneCell_toArray (bytes_one _)
  clear ha
  have tok2 : True := trivial
  rw [show digV (Sp.sha l) = .agg (digC (Sp.sha l)) from rfl, ← HA.out]
  go_enter Tryz.func262, Tryz.ntmps262
  go_wp2_with (have _t2 := tok2; ((with_reducible refine at_alloc (t := 36) rfl ?_); refine box_new rfl (cs := zero32) (t := 36) (by first | (go_simp; done) | (go_simp; rfl)) ?_; intro g2 w2 hg2 hx2 hb2; have H2 := Lib.hid hx2; have B2 := Lib.hid hb2; have GG2 := Lib.hid hg2; clear tok2 _t2 hx2 hb2 hg2))
  have K2 := K.ext (Ext.trans B2.out (Ext.alloc w2 (.cells #[.bool false, .int .u32 0, .int .u32 0, .int .u32 0, .int .u32 0, .int .u32 0, .int .u32 0, .int .u32 0, .int .u32 0, .slice none 0 0, .int .u64 0] 325)))
  refine (swrite_calls w2.heap.size l _ hl K2 (box_at w2 _ _)).mono ?_
  rintro e w3 ⟨rfl, hs3, ho3⟩
  have E3 := Lib.hid (Ext.from' (Ext.trans B2.out (Ext.alloc w2 _)) (ho3.below (show w.heap.size ≤ w2.heap.size from B2.out.size) (by have := B2.out.size; simp; omega)))
  have K3 := K.ext E3.out
  have H3 := Lib.hid (ho3.blk (H2.out.alloc _) (Nat.ne_of_lt H2.out.lt))
  have SV := Lib.hid (svalue_calls w2.heap.size _ _ l.length w3 (Sp.mixN_len _ _ _ rfl) (by rw [List.length_drop]; omega) (by omega) K3 hs3)
  rw [FF.out, ← HA.out] at SV
  clear hs3 ho3 K2 K3
  go_wp2_with fail
  refine SV.out.mono ?_
  rintro e w4 ⟨rfl, hb4⟩
  have H4 := Lib.hid (H3.out.below hb4)
  have E4 := Lib.hid (E3.out.trans hb4)
  clear hb4
  go_wp2_with ((with_reducible refine at_store (t := 36) rfl ?_); refine wpList_store_row rfl _ _ _ rfl g2 arr rfl rfl 36 _ H4.out (by rw [hds, hsl]; kernel_rfl) (by rw [hds, hsl]; rfl) w1 ?_)
  refine bodyPost_ret (results_cell_row rfl _ _ g2 36 arr (0, 0) _ rfl (setRow_heap _ _ _ _ _ _ H4.out) Tryz.underlying36 rfl (by rw [hds, hsl]; kernel_rfl)) rfl ?_
  exact ⟨rfl, below_setRow E4.out (by have := GG2.out; omega) _⟩
def OwnT (w : World) (base : Nat) (e : TypeId) (v : Value) (n : Nat) (xs : List Value) : Prop :=
  xs.length = n ∧ ∃ g cap cur fz, v = .slice (some ⟨g, 0, none⟩) n cap ∧ base ≤ g ∧ w.heap[g]? = some (.cells cur e fz) ∧ (cur.size ≤ fz.1 ∨ fz.2 = 0) ∧ n ≤ cap ∧ cap ≤ maxLen ∧ cur.size = cap ∧ cur.toList.take n = xs
theorem storeT (P : Program) (g o : Nat) (t : TypeId) (fz : Nat × Nat) : ∀ (vs : List Value) (i : Nat) (cur : Array Value) (w : World), w.heap[g]? = some (.cells cur t fz) → (cur.size ≤ fz.1 ∨ fz.2 = 0) → o + i + vs.length ≤ cur.size → (∀ v ∈ vs, v.oneCell' = true) →
    (storeCells ⟨g, o, none⟩ vs i).run P w = .ok () (w.setRow g (cur.toList.take (o + i) ++ vs ++ cur.toList.drop (o + i + vs.length)).toArray)
  | [], i, cur, w, hg, _, _, _ => by
    simp only [storeCells, List.append_nil, List.length_nil, Nat.add_zero, List.take_append_drop, Array.toArray_toList]
    rw [setRow_self w g cur t fz hg]
    rfl
  | v :: rest, i, cur, w, hg, hfz, hl, h1 => by
    have hi : o + i < cur.size := by simp at hl; omega
    have hadd : (⟨g, o, none⟩ : Addr).add i = ⟨g, o + i, none⟩ := by unfold Addr.add; split <;> simp_all
    have hcell : w.cell? ⟨g, o + i, none⟩ = some cur[o + i] := by simp [World.cell?, hg, hi]
    have hfro : w.frozen? ⟨g, o + i, none⟩ = false := by
      obtain ⟨lo, hi'⟩ := fz
      simp only [World.frozen?, hg, Bool.and_eq_false_iff, decide_eq_false_iff_not]
      simp only at hfz
      omega
    have hst : (store ((⟨g, o, none⟩ : Addr).add i) v).run P w = .ok () (w.setRow g (cur.setIfInBounds (o + i) v)) := by
      rw [hadd, run_store P w _ v _ (h1 v (by simp)), hcell]
      simp [hfro, setCell_eq_setRow w g (o + i) cur t fz v hg]
    have ih := storeT P g o t fz rest (i + 1) (cur.setIfInBounds (o + i) v) (w.setRow g (cur.setIfInBounds (o + i) v)) (setRow_heap w g cur _ t _ hg) (by simpa using hfz) (by simp at hl ⊢; omega) (fun x hx => h1 x (by simp [hx]))
    simp only [storeCells, Sem.run_bind, hst, Result.andThen_ok, ih, setRow_setRow]
    congr 3
    have e := list_seg_step cur.toList (o + i) v rest (by simp at hl ⊢; omega)
    simpa [Array.toList_setIfInBounds, Nat.add_assoc] using e
theorem run_roomT {P : Program} (w : World) (t ty e : TypeId) (i : TypeInfo) (ht : P.underlying t = some (.slice e)) (hi : P.info? e = some i) (hs1 : i.size = 1)
    (g sLen sCap : Nat) (cur : Array Value) (fz : Nat × Nat) (hg : w.heap[g]? = some (.cells cur e fz)) (hfz : cur.size ≤ fz.1 ∨ fz.2 = 0)
    (a : Addr) (m c : Nat) (news : List Value) (hl : news.length = m) (hnews : ∀ j u, news[j]? = some u → w.cell? (a.add j) = some u) (h1 : ∀ u ∈ news, u.oneCell' = true)
    (hroom : sLen + m ≤ sCap) (hfit : sLen + news.length ≤ cur.size) :
    (Builtin.append_ #[t, t] ty #[.slice (some ⟨g, 0, none⟩) sLen sCap, .slice (some a) m c]).run P w =
      .ok (.slice (some ⟨g, 0, none⟩) (sLen + m) sCap) (w.setRow g (cur.toList.take sLen ++ news ++ cur.toList.drop (sLen + news.length)).toArray) := by
  have hf := run_firstCells_some (P := P) w 1 m a m c news (by omega) hnews
  have hst := storeT P g sLen e fz news 0 cur w hg hfz (by simpa using hfit) h1
  simp only [Nat.add_zero] at hst
  simp [Builtin.append_, run_underlying ht, sizeOf, typeInfo, hi, hs1, Builtin.lenOf, hroom, hf, Addr.add_lit, hst]
section
variable {P : Program} {ops : Array Oper} {rest : List Oper} {o : Oper} {a : Act} {Q : Exit → Act → World → Prop} {w : World}
theorem app_newT {t e : TypeId} (hst : AppStat P t e 1 1) (hgd : o.guard = none) (s x : Operand) (ho : o.op = .call { callee := .builtin .append, args := #[s, x], argTypes := #[t, t] })
    (base : Nat) (v : Value) (n : Nat) (xs : List Value) (hs : a.eval s = v) (hown : OwnT w base e v n xs) (c : Value) (ty : TypeId)
    (hx : a.eval x = .slice (some ⟨w.heap.size, 0, none⟩) 1 1) (h1 : c.oneCell' = true) (hcap : n + 1 ≤ 140737488355328) (hbase : base ≤ w.heap.size)
    (h : ∀ v' w', OwnT w' base e v' (n + 1) (xs ++ [c]) → Below base w w' → wpList P ops Q rest (a.put o.dst v') w') :
    wpList P ops Q (o :: rest) a (w.alloc (.cells #[c] ty)) := by
  obtain ⟨ht, hz0, hb0, i, z, hi, hz, hsz, hby, hzs⟩ := hst
  obtain ⟨hxl, g, cap, cur, fz, rfl, hbg, hg, hfz, hnc, hcm, hcs, htake⟩ := hown
  have hgl : g < w.heap.size := (Array.getElem?_eq_some_iff.1 hg).1
  have hg' : (w.alloc (.cells #[c] ty)).heap[g]? = some (.cells cur e fz) := (Below.heap_alloc w _ g hgl).trans hg
  have hnews : ∀ j u, ([c] : List Value)[j]? = some u → (w.alloc (.cells #[c] ty)).cell? ((⟨w.heap.size, 0, none⟩ : Addr).add j) = some u := by
    intro j u hj
    rw [show (⟨w.heap.size, 0, none⟩ : Addr).add j = ⟨w.heap.size, 0 + j, none⟩ from by simp [Addr.add]; omega, cell_of_row _ w.heap.size (0 + j) #[c] ty (0, 0) (heap_alloc_new w _)]
    simpa using hj
  have hsmall : n + 1 ≤ 9223372036854775807 := by omega
  have hlen : (xs ++ [c]).length = n + 1 := by simp [hxl]
  have holds : ∀ j u, xs[j]? = some u → (w.alloc (.cells #[c] ty)).cell? ((⟨g, 0, none⟩ : Addr).add j) = some u := by
    intro j u hu
    have hadd : (⟨g, 0, none⟩ : Addr).add j = ⟨g, j, none⟩ := by unfold Addr.add; split <;> simp_all
    rw [hadd, cell_of_row _ g j cur e fz hg']
    rw [← htake, List.getElem?_take] at hu
    split at hu
    · simpa using hu
    · cases hu
  by_cases hroom : n + 1 ≤ cap
  · have hr := run_roomT (P := P) (w.alloc (.cells #[c] ty)) t o.type e i ht hi hsz g n cap cur fz hg' hfz ⟨w.heap.size, 0, none⟩ 1 1 [c] rfl hnews (by intro u hu; simp at hu; subst hu; exact h1) hroom (by simp; omega)
    refine Lib.wpList_append_run _ hgd s x t t ho _ _ hs hx _ _ hr (h _ _ ⟨hlen, g, cap, _, fz, rfl, hbg, setRow_heap _ g cur _ e _ hg', ?_, hroom, hcm, ?_, ?_⟩ ?_)
    · rcases hfz with h | h
      · left; simp; omega
      · exact .inr h
    · simp; omega
    · rw [htake, ← hlen]
      exact List.take_left
    · exact below_setRow ((Below.refl _ _).alloc hbase _) hbg _
  · have hr := run_append_grow (P := P) (w.alloc (.cells #[c] ty)) t o.type e i z ht hi hz ⟨g, 0, none⟩ n cap xs (by rw [hsz, hxl, Nat.mul_one]) holds ⟨w.heap.size, 0, none⟩ 1 1 [c] (by rw [hsz]; rfl) hnews (by omega) (by omega) (growslice_fits (by omega) (by rw [hby]; omega))
    have hge := grownCap_ge (w.alloc (.cells #[c] ty)) (n + 1) cap e
    have hcm2 := grownCap_le_maxLen (w.alloc (.cells #[c] ty)) (n + 1) cap e (by unfold maxLen; omega)
    refine Lib.wpList_append_run _ hgd s x t t ho _ _ hs hx _ _ hr (h _ _ ⟨hlen, (w.alloc (.cells #[c] ty)).heap.size, _, _, (0, 0), rfl, by simp; omega, heap_alloc_new (w.alloc (.cells #[c] ty)).drew _, .inr rfl, hge, hcm2, ?_, ?_⟩ ?_)
    · simp only [Array.size_append, List.size_toArray, size_zeroCells, hzs, hxl, List.length_cons, List.length_nil]
      omega
    · simp only [Array.toList_append, List.append_assoc]
      rw [← List.append_assoc, ← hlen]
      exact List.take_left
    · exact (((Below.refl _ _).alloc hbase _).drew).alloc (by simp; omega) _
end
theorem OwnT.read {w : World} {base n : Nat} {e : TypeId} {v : Value} {xs : List Value} (h : OwnT w base e v n xs) : ∃ A cap, v = .slice A n cap ∧ n ≤ cap ∧ cap ≤ maxLen ∧ Cells w A xs ∧ OwnT w base e (.slice A n cap) n xs := by
  obtain ⟨hl, g, cap, cur, fz, rfl, hbg, hg, hfz, hnc, hcm, hcs, htake⟩ := h
  refine ⟨_, cap, rfl, hnc, hcm, fun _ => ⟨g, 0, rfl, fun j u hu => ?_⟩, hl, g, cap, cur, fz, rfl, hbg, hg, hfz, hnc, hcm, hcs, htake⟩
  rw [cell_of_row w g (0 + j) cur e fz hg]
  rw [← htake, List.getElem?_take] at hu
  split at hu
  · simpa using hu
  · cases hu
theorem conv_bytes {P : Program} {ops : Array Oper} {rest : List Oper} {o : Oper} {a : Act} {Q : Exit → Act → World → Prop} {w : World} {src dst e : TypeId} {x : Operand} (ho : o.op = .convert src dst x) (hgd : o.guard = none)
    (hs : P.underlying src = some .string) (hd : P.underlying dst = some (.slice e)) (he : P.underlying e = some (.int .u8)) (l : Sp.Bs) (hx : a.eval x = .string (strOf l)) (hl : l.length ≤ maxLen)
    (h : ∀ v w', OwnT w' w.heap.size e v l.length (l.map byteV) → Ext w w' → wpList P ops Q rest (a.put o.dst v) w') : wpList P ops Q (o :: rest) a w := by
  refine wpList_plain hgd fun K hK => ?_
  unfold Oper.wp
  have hr := run_bytes_of_string (P := P) w src dst e (strOf l) hs hd he
  simp only [execOp, ho, hx, Sem.run_bind]
  have hsz : (strOf l).size = l.length := strOf_size l
  rw [hsz] at hr
  have hge := grownCap_ge w l.length 0 e
  have hcm := grownCap_le_maxLen w l.length 0 e hl
  have hbs : (bytesRow (strOf l) (grownCap w l.length 0 e)).size = grownCap w l.length 0 e := by
    simp only [bytesRow, Array.size_append, Array.size_map, Array.size_replicate, hsz]
    have : (strOf l).data.size = l.length := hsz
    omega
  simp only [hr, Result.andThen_ok]
  refine hK _ _ (h _ _ ⟨by simp, w.heap.size, _, _, _, rfl, Nat.le_refl _, heap_alloc_new w.drew _, .inl (Nat.le_refl _), hge, hcm, hbs, ?_⟩ ?_)
  · simp [bytesRow, strOf]
    intro c _; rfl
  · exact ((Below.refl _ _).drew).alloc (Nat.le_refl _) _
end Go.Proofs.YtmlfnidckfeebaaGreatDoor
