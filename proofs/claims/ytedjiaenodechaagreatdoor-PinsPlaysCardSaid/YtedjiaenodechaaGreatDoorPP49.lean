/- Walks: PinsPlays. -/
import Derived.Test.YtedjiaenodechaaGreatDoorPP48
namespace Go.Proofs.YtedjiaenodechaaGreatDoor
open Go.RowKit Go.Shelf
attribute [local go_sem] yUpon strOf_toList
/-- What is done: its kind, which tree, when. -/
abbrev ActZ := Int × Int × Int
def actL (x : ActZ) : List Value := [.int .i64 x.1, .int .i64 x.2.1, .int .i64 x.2.2]
def actsC : List ActZ → List Value
  | [] => []
  | x :: r => actL x ++ actsC r
theorem actsC_get : ∀ (l : List ActZ) (k : Nat) (h : k < l.length), (actsC l)[k * 3]? = some (.int .i64 l[k].1) ∧ (actsC l)[k * 3 + 1]? = some (.int .i64 l[k].2.1) ∧ (actsC l)[k * 3 + 2]? = some (.int .i64 l[k].2.2)
  | x :: r, 0, _ => ⟨rfl, rfl, rfl⟩
  | x :: r, k + 1, h => by
    obtain ⟨h1, h2, h3⟩ := actsC_get r k (by simpa using h)
    rw [show (k + 1) * 3 = k * 3 + 3 by omega]
    exact ⟨h1, h2, h3⟩
theorem actsC_len : ∀ l, (actsC l).length = l.length * 3
  | [] => rfl
  | x :: r => by rw [actsC, List.length_append, actsC_len r, List.length_cons]; show 3 + _ = _; omega
theorem acts_at {w : World} {A : Option Addr} {l : List ActZ} (h : Cells w A (actsC l)) (hn : 0 < l.length) : ∃ g o, A = some ⟨g, o, none⟩ ∧ ∀ k (hk : k < l.length), w.cell? ⟨g, o + k * 3, none⟩ = some (.int .i64 l[k].1) ∧ w.cell? ⟨g, o + k * 3 + 1, none⟩ = some (.int .i64 l[k].2.1) ∧ w.cell? ⟨g, o + k * 3 + 2, none⟩ = some (.int .i64 l[k].2.2) := by
  obtain ⟨g, o, hA, hc⟩ := h (by intro e; have := actsC_len l; rw [e] at this; simp at this; omega)
  exact ⟨g, o, hA, fun k hk => by
    obtain ⟨h1, h2, h3⟩ := actsC_get l k hk
    exact ⟨hc _ _ h1, by rw [Nat.add_assoc]; exact hc _ _ h2, by rw [Nat.add_assoc]; exact hc _ _ h3⟩⟩
/-- The document's pins in memory, apart from the program's. -/
def RAt (g : Nat) (w : World) (v : Value) (rs : List RPin) : Prop := w.ownsRow (g + 1) 115 34 v rs.length (rpsC rs)
theorem RAt.only {g : Nat} {w w' : World} {v : Value} {rs : List RPin} (h : RAt g w v rs) (e : Only g w w') : RAt g w' v rs := own_apart h e (fun hb => by have := (h.lt g hb).1; omega)
theorem RAt.ext {g : Nat} {w w' : World} {v : Value} {rs : List RPin} (h : RAt g w v rs) (e : Ext w w') : RAt g w' v rs := own_ext h e
theorem clampS_tm (n : Int) : Tm (clampS n) := clamp_tm n
set_option maxRecDepth 100000 in
set_option maxHeartbeats 4000000 in
theorem pinsPlays_calls (l : List ActZ) (A : Option Addr) (cap : Nat) (w : World) (hL : Cells w A (actsC l)) (hb : ∀ x ∈ l, -9223372036854775808 ≤ x.2.1 ∧ x.2.1 ≤ 9223372036854775807) (K : KeysAt w 2) (M : MaxAt w) :
    Calls Tryz.prog 7 #[.slice A l.length cap] w fun e w' => e = .returned (.bool true) ∧ Ext w w' := by
  have KK := Lib.hid K
  have MM := Lib.hid M
  have LL := Lib.hid hL
  have HB := Lib.hid hb
  have tok1 : True := trivial
  clear K M hL hb
  go_enter Tryz.func7, Tryz.ntmps7
  go_upto_region 2 with (have _t := tok1; ((with_reducible refine at_box (t := 62) rfl ?_); refine box_new rfl (cs := #[.slice none 0 0]) (t := 62) (by first | (go_simp; done) | (go_simp; rfl)) ?_; intro g w2 hg2 hx2 hb2; have P2 := Lib.hid (pins_new w2 g hx2); have B2 := Lib.hid (show Ext w w2 from hb2); have GG := Lib.hid hg2; clear tok1 _t hx2 hb2 hg2))
  go_wp2
  go_loopw [4, 5] (fun v4 v5 wr => ∃ i zs, i ≤ l.length ∧ i ≤ 60 ∧ v5 = .int .i64 (i : Nat) ∧ List.length zs ≤ i ∧ ZOk zs ∧ PinsAt g wr (zs.map zP) ∧ RAt g wr v4 (zs.map zR) ∧ Ext w wr) (fun _ v5 _ => 60 - (intOf v5).toNat)
  case atStart => exact ⟨0, [], Nat.zero_le _, Nat.zero_le _, rfl, Nat.le_refl _, fun z h => by (cases h), P2.out, World.ownsRow_nil _ _ _ _, B2.out⟩
  case round =>
    obtain ⟨i, zs, hil, hi60, rfl, hzl, hzo, hP, hR, hb⟩ := hrel
    have PP := Lib.hid hP
    have RR := Lib.hid hR
    have ZO := Lib.hid hzo
    have EW := Lib.hid hb
    clear hP hR hzo hb
    by_cases hgo : i < l.length ∧ i < 60
    · obtain ⟨g1, g2⟩ := hgo
      have b1 : (i : Int) < (l.length : Int) := by omega
      have b2 : (i : Int) < 60 := by omega
      obtain ⟨lb, lo, rfl, hc⟩ := acts_at LL.out (by omega)
      obtain ⟨c0, c1, c2⟩ := hc i g1
      have hbn := HB.out _ (List.getElem_mem g1)
      obtain ⟨kd, hkd⟩ : ∃ kd, kd = (l[i]).1 := ⟨_, rfl⟩
      obtain ⟨n, hn⟩ : ∃ n, n = (l[i]).2.1 := ⟨_, rfl⟩
      obtain ⟨now, hnow⟩ : ∃ now, now = (l[i]).2.2 := ⟨_, rfl⟩
      rw [← hkd] at c0
      rw [← hn] at c1 hbn
      rw [← hnow] at c2
      have c0 := EW.out.cell c0
      have c1 := EW.out.cell c1
      have c2 := EW.out.cell c2
      have HN := Lib.hid hbn
      clear hc hkd hn hnow hbn
      obtain ⟨x, hx⟩ : ∃ x : Int, x = n % 18446744073709551616 := ⟨_, rfl⟩
      obtain ⟨k, hk⟩ : ∃ k, k = Sp.tN n := ⟨_, rfl⟩
      have hk7 : k < 7 := by rw [hk]; exact Sp.tN_lt n
      have u1 : IntKind.u64.wrap n = x := by rw [IntKind.wrap_u64, hx]
      have u2 : x.tmod 7 = (k : Int) := by
        rw [Int.tmod_eq_emod_of_nonneg (by omega), hk]
        unfold Sp.tN
        omega
      have u3 : IntKind.i64.wrap (k : Int) = (k : Int) := IntWalk.i64_in _ (by omega)
      have u5 : IntKind.u64.wrap (k : Int) = (k : Int) := by rw [IntKind.wrap_u64]; omega
      obtain ⟨tm, htm⟩ : ∃ tm, tm = clampS now := ⟨_, rfl⟩
      have TM := Lib.hid (show Tm tm by rw [htm]; exact clamp_tm now)
      obtain ⟨rs, hrs⟩ : ∃ rs, rs = zs.map zR := ⟨_, rfl⟩
      have RL := Lib.hid (show rs.length = zs.length by rw [hrs]; exact List.length_map _)
      have RO := Lib.hid (show ROk rs by rw [hrs]; exact zR_ok ZO.out)
      have RZ := Lib.hid (show ∀ x ∈ rs, 0 ≤ x.2.1 by rw [hrs]; exact zR_pos zs)
      obtain ⟨d, hd⟩ : ∃ d, d = dgZ k := ⟨_, rfl⟩
      have DD := Lib.hid (show d.length = 32 by rw [hd]; unfold dgZ; exact Sp.nsum_len _)
      have RT := Lib.hid (show ∀ v W, TreeAt W v (Sp.treeK k) → KeysAt W 2 → Calls Tryz.prog 24 #[v] W fun e w' => e = .returned (digV d) ∧ Ext W w' from fun v W h K => by rw [hd]; exact troot_calls _ v W h K)
      have ZPUT := Lib.hid (show ∀ a, rputL d (k : Int) tm rs = (putZ a k tm zs).map zR from fun a => by rw [hd, hrs]; exact putZ_r a k tm zs)
      have ZFIND := Lib.hid (show rfindL d tm rs = (findZ d tm zs).map zR by rw [hrs]; exact findZ_r d tm zs)
      have ZOLD := Lib.hid (show roldS tm rs = (oldZ tm zs).map zR by rw [hrs]; exact oldZ_r tm zs)
      have ZFI := Lib.hid (show rfindI d tm rs = rfindI d tm (zs.map zR) by rw [hrs])
      have RR1 := RR.out
      rw [← hrs] at RR1
      obtain ⟨A4, c4, e4, _⟩ := own_read (show wr.ownsRow (g + 1) 115 34 u4 rs.length (rpsC rs) from RR1)
      subst e4
      have RW := Lib.hid RR1
      have RC := Lib.hid (show ∀ W, RAt g W (.slice A4 rs.length c4) rs → Cells W A4 (rpsC rs) from fun W h => by
        obtain ⟨_, _, e, hc⟩ := own_read (show W.ownsRow (g + 1) 115 34 (.slice A4 rs.length c4) rs.length (rpsC rs) from h)
        cases e
        exact hc)
      clear hx hrs hd RR1
      go_upto_region 7 with fail
      obtain ⟨w6, hw6⟩ : ∃ w6, w6 = wr.alloc (.cells #[.int .i64 kd, .int .i64 n, .int .i64 now] 65) := ⟨_, rfl⟩
      have X6 := Lib.hid (show isBlk w6 wr.heap.size 65 #[.int .i64 kd, .int .i64 n, .int .i64 now] by rw [hw6]; exact box_at wr _ _)
      have E6 := Lib.hid (show Ext wr w6 by rw [hw6]; exact Ext.alloc _ _)
      obtain ⟨gx, hgx⟩ : ∃ gx, gx = wr.heap.size := ⟨_, rfl⟩
      have GX := Lib.hid (show gx ≠ g by have := PP.out.lt; omega)
      have HGX := Lib.hid hgx
      rw [← hgx] at X6 ⊢
      rw [← hw6]
      clear hw6 c0 c1 c2 hgx
      have f1 := (X6.out.cell 1).trans rfl
      have TC := Lib.hid (trees_calls n w6 HN.out (KK.out.ext (EW.out.trans E6.out)) (max_kept MM.out (EW.out.trans E6.out)))
      rw [← hk] at TC
      go_wp2_with fail
      refine TC.out.mono ?_
      rintro e w7 ⟨a7, rfl, ht7, hb7⟩
      have T7 := Lib.hid ht7
      have E7 := Lib.hid (show Ext w w7 from (EW.out.trans E6.out).trans hb7)
      have X7 := Lib.hid (X6.out.below hb7)
      have P7 := Lib.hid (PP.out.ext (E6.out.trans hb7))
      have R7 := Lib.hid (RW.out.ext (E6.out.trans hb7))
      have K7 := Lib.hid (KK.out.ext E7.out)
      have M7 := Lib.hid (max_kept MM.out E7.out)
      have f0 := (X7.out.cell 0).trans rfl
      have f1 := (X7.out.cell 1).trans rfl
      have f2 := (X7.out.cell 2).trans rfl
      have zl := hzl
      clear ht7 hb7 hk
      by_cases h0 : kd = 0
      · subst h0
        have PC := Lib.hid (put_calls g (zs.map zP) a7 (Sp.treeK k) now w7 P7.out (by rw [List.length_map]; omega) T7.out K7.out)
        rw [← htm, putZ_p] at PC
        go_wp2_with fail
        refine PC.out.mono ?_
        rintro e w8 ⟨rfl, hp8, ho8⟩
        have P8 := Lib.hid hp8
        have X8 := Lib.hid (ho8.blk X7.out GX.out)
        have R8 := Lib.hid (R7.out.only ho8)
        have T8 := Lib.hid (P7.out.tree ho8 T7.out)
        have K8 := Lib.hid (P7.out.keys ho8 K7.out)
        have E8 := Lib.hid (show Ext w w8 from Below.trans E7.out (ho8.below GG.out E7.out.size))
        have RP := Lib.hid (show ∀ W, Ext w8 W → _ from fun W e => rpput_calls rs A4 c4 d DD.out (k : Int) now W (RC.out W (R8.out.ext e)) RO.out (by rw [RL.out]; omega) RZ.out)
        rw [← htm] at RP
        clear hp8 ho8 f0 f1 f2
        go_wp2_with fail
        refine wp_region_det_tail (fun W => Ext w8 W) 10 (by kernel_rfl) (by kernel_rfl) (Ext.refl w8).drew ?_
        repeat (first
          | (refine det_step (fun K hK => ?_)
             apply Exists.intro
             refine ⟨Or.inl ⟨rfl, fun W hS => ?_⟩, ?_⟩
             · replace hS : Ext w8 W := hS; have f1 := ((X8.out.below hS).cell 1).trans rfl; have f2 := ((X8.out.below hS).cell 2).trans rfl
               go_simp
               first
               | exact rfl
               | exact ⟨rfl, hS⟩
               | (refine (RT.out _ W (T8.out.ext hS) (K8.out.ext hS)).mono ?_; rintro e w9 ⟨rfl, hb9⟩; exact ⟨rfl, hS.trans hb9⟩)
             go_simp
             refine hK _ ?_
             clear hK K)
          | (refine det_step (fun K hK => ?_); refine det_no' rfl ?_; go_simp; refine hK _ ?_; clear hK K))
        refine det_nil ?_
        intro W9 hS
        replace hS : Ext w8 W9 := hS
        go_wp2_with fail
        refine (RP.out W9 hS).mono ?_
        rintro e w10 ⟨v10, rfl, hO10, hb10⟩
        rw [ZPUT.out a7] at hO10
        have RA := Lib.hid (show RAt g w10 v10 ((putZ a7 k tm zs).map zR) from own_lowT hO10 (by have := P8.out.lt; have := hS.size; omega))
        have E10 := Lib.hid ((E8.out.trans hS).trans hb10)
        have P10 := Lib.hid (P8.out.ext (hS.trans hb10))
        clear hO10 hb10 hS
        go_wp2
        go_roundw
        case rel => exact ⟨i + 1, putZ a7 k tm zs, by omega, by omega, by go_num, by have := putZ_len a7 k tm zs; omega, ZO.out.put TM.out a7 k hk7, P10.out, RA.out, E10.out⟩
        case measure => simp [intOf]; omega
      have e0 : (kd == 0) = false := by simpa using h0
      by_cases h1 : kd = 1
      · subst h1
        obtain ⟨aq, fb, ki, hfv, hri, hcs⟩ : ∃ (aq : Option Addr) (fb : Bool) (ki : Int), foundV d tm (zs.map zP) = .tuple #[.pointer aq, .bool fb] ∧ rfindI d tm rs = ki ∧ ((fb = true ∧ ∃ k' : Nat, ki = (k' : Int) ∧ k' < 7 ∧ ∀ W, PinsAt g W (zs.map zP) → TreeAt W (.pointer aq) (Sp.treeK k')) ∨ (fb = false ∧ ki = -1 ∧ aq = none)) := by
          have h1 := foundZ d tm zs
          have h2 := rfoundZ d tm zs
          cases hk : kZ d (oldZ tm zs) with
          | none =>
            rw [hk] at h1 h2
            exact ⟨none, false, -1, h1, ZFI.out.trans h2, .inr ⟨rfl, rfl, rfl⟩⟩
          | some j =>
            rw [hk] at h1 h2
            have hj : j < (oldZ tm zs).length := by
              unfold kZ at hk
              rw [List.findIdx?_eq_some_iff_getElem] at hk
              exact hk.1
            obtain ⟨z, hz⟩ : ∃ z, (oldZ tm zs)[j]? = some z := ⟨_, List.getElem?_eq_getElem hj⟩
            simp only [hz, Option.bind_some, Option.map_some, Option.getD_some] at h1 h2
            have hzm : z ∈ zs := (List.mem_filter.1 (List.mem_of_getElem? hz)).1
            exact ⟨z.1, true, z.2.1, h1, ZFI.out.trans h2, .inl ⟨rfl, z.2.1, rfl, (ZO.out z hzm).1, fun W ⟨_, _, _, h⟩ => (h (zP z) (List.mem_map_of_mem hzm)).1⟩⟩
        have CS := Lib.hid hcs
        have PC := Lib.hid (show ∀ W, PinsAt g W (zs.map zP) → KeysAt W 2 → Calls Tryz.prog 19 #[.pointer (some ⟨g, 0, none⟩), digV d, .int .i64 now] W fun e w' => e = .returned (.tuple #[.pointer aq, .bool fb]) ∧ PinsAt g w' ((findZ d tm zs).map zP) ∧ Only g W w' from fun W h K => by
          have := pfind_calls g (zs.map zP) d DD.out now W h (by rw [List.length_map]; omega) K
          rw [← htm, hfv, findZ_p] at this
          exact this)
        have RP := Lib.hid (show ∀ W, RAt g W (.slice A4 rs.length c4) rs → _ from fun W h => rfind_calls rs A4 c4 d DD.out now W (RC.out W h) RO.out (by rw [RL.out]; omega))
        rw [← htm, hri] at RP
        clear hfv hri hcs htm
        go_upto_region 16 with fail
        go_cut [8, 9] (fun v8 v9 wx => v8 = .pointer aq ∧ v9 = .bool fb ∧ PinsAt g wx ((findZ d tm zs).map zP) ∧ Only g w7 wx)
        case first =>
          have tokA : True := trivial
          have tokB : True := trivial
          go_region_law (first
            | (have _tA := tokA; refine step_call rfl 24 #[.pointer a7] (by go_simp) (RT.out _ w7.drew (T7.out.ext (Ext.refl w7).drew) (K7.out.ext (Ext.refl w7).drew)) ?_; rintro e w9 ⟨rfl, hb9⟩; have B9 := Lib.hid (show Ext w7 w9 from Below.trans (Below.refl _ _).drew hb9); have f2 := ((X7.out.below B9.out).cell 2).trans rfl; clear hb9 tokA _tA; refine ⟨_, rfl, ?_⟩)
            | (have _tB := tokB; refine step_call rfl 19 #[.pointer (some ⟨g, 0, none⟩), digV d, .int .i64 now] (by go_simp) (PC.out w9 (P7.out.ext B9.out) (K7.out.ext B9.out)) ?_; rintro e w10 ⟨rfl, hp10, ho10⟩; have P10 := Lib.hid hp10; have O10 := Lib.hid (show Only g w7 w10 from (Only.of_below g B9.out).trans ho10); clear hp10 ho10 tokB _tB; refine ⟨_, rfl, ?_⟩))
          all_goals (
            go_wp2
            go_meet
            case rel => exact ⟨rfl, rfl, P10.out, O10.out⟩)
        case rest =>
          obtain ⟨rfl, rfl, hPx, hon⟩ := hcut
          obtain ⟨wx, hwx⟩ : ∃ wx, wx = wc := ⟨_, rfl⟩
          rw [← hwx] at hPx hon ⊢
          have PX := Lib.hid hPx
          have TX := Lib.hid (P7.out.tree hon T7.out)
          have KX := Lib.hid (P7.out.keys hon K7.out)
          have MX := Lib.hid (P7.out.max hon M7.out)
          have RX := Lib.hid (R7.out.only hon)
          have XX := Lib.hid (hon.blk X7.out GX.out)
          have EX := Lib.hid (show Ext w wx from Below.trans E7.out (hon.below GG.out E7.out.size))
          have CX := Lib.hid (show (fb = true ∧ ∃ k' : Nat, ki = (k' : Int) ∧ k' < 7 ∧ TreeAt wx (.pointer aq) (Sp.treeK k')) ∨ (fb = false ∧ ki = -1 ∧ aq = none) by
            rcases CS.out with ⟨h1, k', h2, h3, h4⟩ | h
            · exact .inl ⟨h1, k', h2, h3, P7.out.tree hon (h4 w7 P7.out)⟩
            · exact .inr h)
          have f2 := (XX.out.cell 2).trans rfl
          clear hPx hon hwx
          go_upto_region 17 with fail
          go_cut [10, 11] (fun v10 v11 wy => ∃ Ax cx, v10 = .slice Ax (findZ d tm zs).length cx ∧ v11 = .int .i64 ki ∧ RAt g wy v10 ((findZ d tm zs).map zR) ∧ Ext wx wy)
          case first =>
            have tokA : True := trivial
            have tokB : True := trivial
            go_region_law (first
              | (have _tA := tokA; refine step_call rfl 24 #[.pointer a7] (by go_simp) (RT.out _ wx.drew (TX.out.ext (Ext.refl wx).drew) (KX.out.ext (Ext.refl wx).drew)) ?_; rintro e w9 ⟨rfl, hb9⟩; have B9 := Lib.hid (show Ext wx w9 from Below.trans (Below.refl _ _).drew hb9); have f2 := ((XX.out.below B9.out).cell 2).trans rfl; clear hb9 tokA _tA; refine ⟨_, rfl, ?_⟩)
              | (have _tB := tokB; refine step_call rfl 32 #[.slice A4 rs.length c4, digV d, .int .i64 now] (by go_simp) (RP.out w9 (RX.out.ext B9.out)) ?_; rintro e w10 ⟨v10, rfl, hO10, hb10⟩; have O10 := Lib.hid hO10; have B10 := Lib.hid (show Ext wx w10 from B9.out.trans hb10); clear hO10 hb10 tokB _tB; refine ⟨_, rfl, ?_⟩))
            all_goals (
              go_wp2
              have hO := O10.out
              rw [ZFIND.out, List.length_map] at hO
              obtain ⟨Ay, cy, rfl, _⟩ := own_read hO
              go_meet
              case rel =>
                refine ⟨Ay, cy, rfl, rfl, ?_, B10.out⟩
                unfold RAt
                rw [List.length_map]
                exact own_lowT hO (by have := PX.out.lt; have := B9.out.size; omega))
          case rest =>
            obtain ⟨Ax, cx, rfl, rfl, hRy, hby⟩ := hcut
            obtain ⟨wy, hwy⟩ : ∃ wy, wy = wc := ⟨_, rfl⟩
            rw [← hwy] at hRy hby ⊢
            have RY := Lib.hid hRy
            have EY := Lib.hid (EX.out.trans hby)
            have PY := Lib.hid (PX.out.ext hby)
            have KY := Lib.hid (KX.out.ext hby)
            have MY := Lib.hid (max_kept MX.out hby)
            have BY := Lib.hid hby
            clear hRy hby hwy f0 f1 f2
            have hcx := CX.out
            rcases hcx with ⟨rfl, k', rfl, hk', hTq⟩ | ⟨rfl, rfl, rfl⟩
            · have TQ := Lib.hid (hTq.ext BY.out)
              have SK := Lib.hid (show Sp.tN (k' : Int) = k' by unfold Sp.tN; rw [Int.emod_eq_of_lt (by omega) (by omega), Int.emod_eq_of_lt (by omega) (by omega)]; omega)
              have TC := Lib.hid (trees_calls (k' : Int) wy (by omega) KY.out MY.out)
              rw [SK.out] at TC
              have GT := Lib.hid (Sp.tree_good ⟨k', hk'⟩)
              have GS := Lib.hid (Sp.tree_short ⟨k', hk'⟩)
              clear hTq
              go_wp2_with fail
              refine TC.out.mono ?_
              rintro e w10 ⟨a10, rfl, ht10, hb10⟩
              have SM := Lib.hid (tsame_calls (Sp.treeK k') (Sp.treeK k') (.pointer aq) (.pointer a10) w10 (TQ.out.ext hb10) ht10 GT.out GT.out GS.out GS.out (KY.out.ext hb10))
              rw [decide_eq_true (rfl : Sp.told (Sp.treeK k') = Sp.told (Sp.treeK k'))] at SM
              have B10 := Lib.hid hb10
              clear ht10 hb10
              go_wp2_with fail
              refine SM.out.mono ?_
              rintro e w11 ⟨rfl, hb11⟩
              have B11 := Lib.hid (B10.out.trans hb11)
              clear hb11
              go_wp2
              go_roundw
              case rel => exact ⟨i + 1, findZ d tm zs, by omega, by omega, by go_num, by have := findZ_len d tm zs; omega, ZO.out.find TM.out d, PY.out.ext B11.out, RY.out.ext B11.out, EY.out.trans B11.out⟩
              case measure => simp [intOf]; omega
            · go_wp2
              go_roundw
              case rel => exact ⟨i + 1, findZ d tm zs, by omega, by omega, by go_num, by have := findZ_len d tm zs; omega, ZO.out.find TM.out d, PY.out, RY.out, EY.out⟩
              case measure => simp [intOf]; omega
      · have e1 : (kd == 1) = false := by simpa using h1
        have LC := Lib.hid (show ∀ W, PinsAt g W (zs.map zP) → _ from fun W h => plen_calls g (zs.map zP) now W h (by rw [List.length_map]; omega))
        have OC := Lib.hid (rold_calls rs A4 c4 now w7 (RC.out w7 R7.out) RO.out (by rw [RL.out]; omega))
        rw [← htm] at LC OC
        obtain ⟨m, hm⟩ : ∃ m, m = (oldZ tm zs).length := ⟨_, rfl⟩
        have hm1 : (oldS tm (zs.map zP)).length = m := by rw [oldZ_p, List.length_map, hm]
        have hm2 : (roldS tm rs).length = m := by rw [ZOLD.out, List.length_map, hm]
        rw [hm1] at LC
        rw [hm2] at OC
        have HM := Lib.hid hm2
        clear hm1 hm2 hm h0 h1
        go_wp2_with fail
        refine OC.out.mono ?_
        rintro e w8 ⟨v8, rfl, hO8, hb8⟩
        obtain ⟨A8, c8, rfl, _⟩ := own_read hO8
        have O8 := Lib.hid hO8
        have E8 := Lib.hid (E7.out.trans hb8)
        have P8 := Lib.hid (P7.out.ext hb8)
        have S8 := Lib.hid hb8.size
        have f2 := ((X7.out.below hb8).cell 2).trans rfl
        clear hO8 hb8 f0 f1
        go_wp2_with fail
        refine (LC.out w8 P8.out).mono ?_
        rintro e w9 ⟨rfl, hp9, ho9⟩
        have P9 := Lib.hid (show PinsAt g w9 ((oldZ tm zs).map zP) by rw [← oldZ_p]; exact hp9)
        have RA := Lib.hid (show RAt g w9 (.slice A8 m c8) ((oldZ tm zs).map zR) by
          rw [← ZOLD.out]
          refine RAt.only (w := w8) ?_ ho9
          unfold RAt
          rw [HM.out]
          exact own_lowT O8.out (P7.out.lt))
        have E9 := Lib.hid (show Ext w w9 from Below.trans E8.out (ho9.below GG.out E8.out.size))
        clear hp9 ho9
        go_wp2
        go_roundw
        case rel => exact ⟨i + 1, oldZ tm zs, by omega, by omega, by go_num, by have := oldZ_len tm zs; omega, ZO.out.old, P9.out, RA.out, E9.out⟩
        case measure => simp [intOf]; omega
    · have hcase : (¬ (i : Int) < (l.length : Int)) ∨ ((i : Int) < (l.length : Int) ∧ ¬ (i : Int) < 60) := by omega
      clear hgo
      rcases hcase with b1 | ⟨b1, b2⟩
      all_goals (
        go_wp2_with fail
        refine (awake28_calls wr (KK.out.ext EW.out) (max_kept MM.out EW.out)).mono ?_
        rintro e w10 ⟨rfl, hb10⟩
        go_wp2
        go_ret
        exact ⟨rfl, EW.out.trans hb10⟩)
end Go.Proofs.YtedjiaenodechaaGreatDoor
