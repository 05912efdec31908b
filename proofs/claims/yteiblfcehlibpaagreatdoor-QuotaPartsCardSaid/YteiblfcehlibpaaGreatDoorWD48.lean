/- Walks: Dirs of the document; Depth. What '==' says of a kid and itself. Walks: whether leaves, and entries, are too much to be asked. The examples of chapter 15: plain. Walks: chapter 15's examples. -/
import Derived.Test.YteiblfcehlibpaaGreatDoorWD47
import Derived.Test.YteiblfcehlibpaaGreatDoorWD45
import Derived.Test.YteiblfcehlibpaaGreatDoorWD09
import Derived.Stop.BytesEq
namespace Go.Proofs.YteiblfcehlibpaaGreatDoor
open Go.RowKit Go.Shelf
attribute [local go_sem] yUpon strOf_toList
set_option maxRecDepth 100000 in
set_option maxHeartbeats 4000000 in
theorem rdirs_calls (m : List Sp.DE) (A : Option Addr) (cap : Nat) (d : Sp.Bs) (w : World) (h : EntsAt w A m) (hl : m.length ≤ 1000) (hpl : ∀ e ∈ m, e.1.length ≤ 1000000) (hdl : d.length ≤ 1000000) :
    Calls Tryz.prog 34 #[.slice A m.length cap, .string (strOf d)] w fun e w' => ∃ B c, e = .returned (.slice B (Sp.dirsS m d).length c) ∧ Nams w' B (Sp.dirsS m d) ∧ Ext w w' := by
  have UC := Lib.hid fun W (e : Ext w W) => rwunder_calls m A cap d W (h.ext e) hl hpl hdl
  have PD := Lib.hid (rpparts_calls d w hdl)
  have hD4 := Sp.parts_len d
  have u1 := Sp.wunder_len m d
  have DS := Lib.hid (show Sp.dirsS m d = Sp.ddf (Sp.dnames (Sp.parts d).length (Sp.wunder m d)) from rfl)
  have PL := Lib.hid (show ∀ e ∈ Sp.wunder m d, e.1.length ≤ 1000000 from fun e he => hpl e (List.mem_filter.1 he).1)
  obtain ⟨l, hll⟩ : ∃ l, l = Sp.wunder m d := ⟨_, rfl⟩
  obtain ⟨dp, hdp⟩ : ∃ dp, dp = (Sp.parts d).length := ⟨_, rfl⟩
  rw [← hll] at UC DS u1 PL
  rw [← hdp] at PD DS hD4
  clear h hpl hll hdp
  go_enter Tryz.func34, Tryz.ntmps34
  go_wp2_with fail
  refine PD.out.mono ?_
  rintro e w1 ⟨A1, c1, rfl, _, hb1⟩
  have B1 := Lib.hid hb1
  clear hb1
  go_wp2_with fail
  refine (UC.out w1 B1.out).mono ?_
  rintro e w2 ⟨A2, c2, rfl, hE, hb2⟩
  have HE := Lib.hid hE
  have B2 := Lib.hid (B1.out.trans hb2)
  clear hE hb2
  go_wp2
  go_loopw [5, 8] (fun v5 v8 wr => ∃ k : Nat, k ≤ l.length ∧ v8 = .int .i64 k ∧ wr.ownsRow w2.heap.size 9 1 v5 (Sp.ddf (Sp.dnames dp (l.take k))).length (strsC (Sp.ddf (Sp.dnames dp (l.take k)))) ∧ Ext w2 wr) (fun _ v8 _ => l.length - (intOf v8).toNat)
  case atStart => exact ⟨0, Nat.zero_le _, rfl, World.ownsRow_nil _ _ _ _, Ext.refl _⟩
  case round =>
    obtain ⟨k, hk, rfl, hO, hb⟩ := hrel
    by_cases hlt : k < l.length
    · obtain ⟨eb, eo, rfl, he⟩ := HE.out.at (by omega)
      obtain ⟨Av, cv, c0, _, _⟩ := he k hlt
      have c0 := hb.cell c0
      have st := Sp.dnames_take dp l k hlt
      have nl := Nat.le_trans (Sp.ddf_len (Sp.dnames dp (l.take k))) (Sp.dnames_len dp (l.take k))
      rw [List.length_take] at nl
      have XL := Lib.hid (PL.out _ (List.getElem_mem hlt))
      obtain ⟨x, hx⟩ : ∃ x, x = l[k] := ⟨_, rfl⟩
      rw [← hx] at c0 st XL
      have st2 := congrArg Sp.ddf st
      obtain ⟨nm, hnm⟩ : ∃ nm, nm = Sp.dnames dp (l.take k) := ⟨_, rfl⟩
      rw [← hnm] at st2 nl hO
      obtain ⟨out, hout⟩ : ∃ out, out = Sp.ddf nm := ⟨_, rfl⟩
      rw [← hout] at nl hO
      obtain ⟨P, hP⟩ : ∃ P, P = Sp.parts x.1 := ⟨_, rfl⟩
      have PC := Lib.hid fun W => rpparts_calls x.1 W XL.out
      have hP4 := Sp.parts_len x.1
      rw [← hP] at st2 PC hP4
      have ST := Lib.hid (show Sp.ddf (Sp.dnames dp (l.take (k + 1))) = if dp + 1 < P.length then Sp.nxt out (P.getD dp []) else out by
        rw [st2]
        by_cases h : dp + 1 < P.length
        · rw [if_pos h, if_pos h, Sp.ddf_snoc, hout]
        · rw [if_neg h, if_neg h, List.append_nil, hout])
      have OO := Lib.hid hO
      have EW := Lib.hid hb
      have b1 : (k : Int) < (l.length : Int) := by omega
      obtain ⟨A8, c8, rfl, _⟩ := own_read hO
      clear he hx hO hb hout hP st st2 hnm
      go_wp2_with fail
      refine (PC.out wr).mono ?_
      rintro e w7 ⟨A7, c7, rfl, hN7, hb7⟩
      have N7 := Lib.hid hN7
      have E7 := Lib.hid (show Ext wr w7 from hb7)
      have O7 := Lib.hid (own_ext OO.out E7.out)
      clear hN7 hb7 c0
      have dp1 : IntKind.i64.wrap ((dp : Int) + 1) = (dp : Int) + 1 := IntWalk.i64_in _ (by omega)
      by_cases hgt : dp + 1 < P.length
      · have b2 : (dp : Int) + 1 < (P.length : Int) := by omega
        have b3 : (dp : Int) < (P.length : Int) := by omega
        obtain ⟨pb, po, rfl, hpn⟩ := N7.out.at (by omega)
        have p0 := hpn dp (by omega)
        have ST2 := Lib.hid (show Sp.ddf (Sp.dnames dp (l.take (k + 1))) = Sp.nxt out (P[dp]'(by omega)) by
          rw [ST.out, if_pos hgt]
          simp [List.getD_eq_getElem?_getD, show dp < P.length by omega])
        obtain ⟨s, hs⟩ : ∃ s, s = P[dp]'(by omega) := ⟨_, rfl⟩
        rw [← hs] at p0 ST2
        have P0 := Lib.hid p0
        clear hpn hs hgt p0
        by_cases ho : out = []
        · subst ho
          have ST3 := Lib.hid (show Sp.ddf (Sp.dnames dp (l.take (k + 1))) = [s] by rw [ST2.out]; rfl)
          go_wp2_with fail
          refine wp_region_det (fun W => Ext w7 W) (by kernel_rfl) (by kernel_rfl) (Below.refl _ _).drew ?_
          repeat (first
            | (refine det_step (fun K hK => ?_)
               apply Exists.intro
               refine ⟨Or.inl ⟨rfl, fun W hS => ?_⟩, ?_⟩
               · replace hS : Ext w7 W := hS
                 have z0 := hS.cell P0.out
                 go_simp
                 first
                 | exact rfl
                 | exact ⟨rfl, hS⟩
                 | (fail)
               go_simp
               refine hK _ ?_
               clear hK K)
            | (refine det_step (fun K hK => ?_); refine det_no' rfl ?_; go_simp; refine hK _ ?_; clear hK K))
          refine det_nil ?_
          intro W9 hS
          replace hS : Ext _ W9 := hS
          have O9 := Lib.hid (own_ext O7.out hS)
          have E9 := Lib.hid (EW.out.trans (E7.out.trans hS))
          have z0 := hS.cell P0.out
          have tok : True := trivial
          clear hS
          go_wp2_with (have _t := tok; at_builtin; refine app_new appStr rfl _ _ rfl w2.heap.size _ 0 _ rfl O9.out #[.string (strOf s)] 9 1 rfl rfl (by intro u hu; simp at hu; subst hu; rfl) (by decide) (by omega) E9.out.size ?_; intro g9 cap9 w9 hown9 hgr9 hb9 hbg9; have O10 := Lib.hid hown9; have B10 := Lib.hid hb9; clear tok _t hown9 hgr9 hb9 hbg9)
          go_roundw
          case rel =>
            refine ⟨k + 1, by omega, by go_num, ?_, Below.trans E9.out B10.out⟩
            rw [ST3.out]
            exact O10.out
          case measure => simp [intOf]; omega
        · have hpos : 0 < out.length := List.length_pos_iff.2 ho
          obtain ⟨oj, hoj⟩ : ∃ oj, oj = out.length - 1 := ⟨_, rfl⟩
          obtain ⟨g8, c8', e8, hg8⟩ := owned_form O7.out hpos
          cases e8
          have hlast : out.getLast? = some (out[oj]'(by omega)) := by
            rw [List.getLast?_eq_getElem?, ← hoj, List.getElem?_eq_getElem (by omega)]
          obtain ⟨c1, _, _, _⟩ := own_isBlk O7.out oj _ (strsC_get out oj (by omega))
          obtain ⟨y, hy⟩ : ∃ y, y = out[oj]'(by omega) := ⟨_, rfl⟩
          rw [← hy] at hlast c1
          have C1 := Lib.hid c1
          have ST3 := Lib.hid (show Sp.ddf (Sp.dnames dp (l.take (k + 1))) = if y = s then out else out ++ [s] by
            rw [ST2.out, Sp.nxt, hlast]
            simp only [Option.some.injEq])
          have w1 : IntKind.i64.wrap ((out.length : Int) - 1) = (oj : Int) := by rw [show (out.length : Int) - 1 = (oj : Int) by omega]; exact IntWalk.i64_in _ (by omega)
          have b4 : (oj : Int) < (out.length : Int) := by omega
          have b5 : ((out.length : Int) == 0) = false := by rw [beq_eq_false_iff_ne]; omega
          have b6 : ¬ (out.length : Int) = 0 := by omega
          clear hoj hlast c1 hy ho
          go_wp2_with fail
          refine wp_region_det (fun W => Ext w7 W) (by kernel_rfl) (by kernel_rfl) (Below.refl _ _).drew ?_
          repeat (first
            | (refine det_step (fun K hK => ?_)
               apply Exists.intro
               refine ⟨Or.inl ⟨rfl, fun W hS => ?_⟩, ?_⟩
               · replace hS : Ext w7 W := hS
                 have z0 := hS.cell P0.out; have z1 := hS.cell C1.out
                 go_simp
                 first
                 | exact rfl
                 | exact ⟨rfl, hS⟩
                 | (fail)
               go_simp
               refine hK _ ?_
               clear hK K)
            | (refine det_step (fun K hK => ?_); refine det_no' rfl ?_; go_simp; refine hK _ ?_; clear hK K))
          refine det_nil ?_
          intro W9 hS
          replace hS : Ext _ W9 := hS
          have O9 := Lib.hid (own_ext O7.out hS)
          have E9 := Lib.hid (EW.out.trans (E7.out.trans hS))
          have z0 := hS.cell P0.out
          have tok : True := trivial
          clear hS
          go_wp2_with (have _t := tok; at_builtin; refine app_new appStr rfl _ _ rfl w2.heap.size _ out.length _ rfl O9.out #[.string (strOf s)] 9 1 rfl rfl (by intro u hu; simp at hu; subst hu; rfl) (by decide) (by omega) E9.out.size ?_; intro g9 cap9 w9 hown9 hgr9 hb9 hbg9; have O10 := Lib.hid hown9; have B10 := Lib.hid hb9; clear tok _t hown9 hgr9 hb9 hbg9)
          · have hne : y ≠ s := by
              have h : (!(y == s)) = true := by assumption
              intro e
              rw [e, beq_self_eq_true] at h
              cases h
            refine ⟨⟨k + 1, by omega, by go_num, ?_, Below.trans E9.out B10.out⟩, by simp [intOf]; omega⟩
            rw [ST3.out, if_neg hne, List.length_append, strsC, List.map_append]
            exact O10.out
          · have heq : y = s := by
              have h : (!(y == s)) = false := by assumption
              have : (y == s) = true := by
                revert h
                cases (y == s) <;> simp
              exact beq_iff_eq.1 this
            refine ⟨⟨k + 1, by omega, by go_num, ?_, E9.out⟩, by simp [intOf]; omega⟩
            rw [ST3.out, if_pos heq]
            exact O9.out
      · have b2 : decide ((dp : Int) + 1 < (P.length : Int)) = false := decide_eq_false (by omega)
        have b3 : ¬ (dp : Int) + 1 < (P.length : Int) := by omega
        have ST2 := Lib.hid (show Sp.ddf (Sp.dnames dp (l.take (k + 1))) = out by rw [ST.out, if_neg hgt])
        clear hgt
        go_wp2_with fail
        refine wp_region_det (fun W => Ext w7 W) (by kernel_rfl) (by kernel_rfl) (Below.refl _ _).drew ?_
        repeat (first
          | (refine det_step (fun K hK => ?_)
             apply Exists.intro
             refine ⟨Or.inl ⟨rfl, fun W hS => ?_⟩, ?_⟩
             · replace hS : Ext w7 W := hS
               skip
               go_simp
               first
               | exact rfl
               | exact ⟨rfl, hS⟩
               | (fail)
             go_simp
             refine hK _ ?_
             clear hK K)
          | (refine det_step (fun K hK => ?_); refine det_no' rfl ?_; go_simp; refine hK _ ?_; clear hK K))
        refine det_nil ?_
        intro W9 hS
        replace hS : Ext _ W9 := hS
        have O9 := Lib.hid (own_ext O7.out hS)
        have E9 := Lib.hid (EW.out.trans (E7.out.trans hS))
        clear hS
        go_wp2
        go_roundw
        case rel => exact ⟨k + 1, by omega, by go_num, by rw [ST2.out]; exact O9.out, E9.out⟩
        case measure => simp [intOf]; omega
    · obtain rfl : k = l.length := by omega
      rw [List.take_length, ← DS.out] at hO
      obtain ⟨A9, c9, rfl, hN9⟩ := own_read hO
      have N9 := Lib.hid hN9
      have E9 := Lib.hid (B2.out.trans hb)
      clear hO hN9 hb
      go_wp2
      go_ret
      exact ⟨A9, c9, rfl, N9.out, E9.out⟩
end Go.Proofs.YteiblfcehlibpaaGreatDoor
namespace Go.Proofs.YteiblfcehlibpaaGreatDoor
open Go.RowKit
theorem kid_guard : Tryz.prog.eqGuardType Tryz.prog.depth 170 = false := by kernel_rfl
theorem keq_in (x : Sp.Kid) (h : x.2.length = 32) (w : World) : (Op.equalIn 10000 170 (.agg (kidL x).toArray) (.agg (kidL x).toArray)).run Tryz.prog w = .ok true w := by
  have hS : Tryz.prog.underlying 170 = some (.struct (Tryz.prog.fieldsOf 170)) := by kernel_rfl
  have hp : Tryz.prog.stoodInHeld 170 = false := by kernel_rfl
  have hb : (Op.equalIn 9999 110 (.agg (x.2.map byteV).toArray) (.agg (x.2.map byteV).toArray)).run Tryz.prog w = .ok true w := by
    have := run_equalIn_bytes (P := Tryz.prog) w 9997 110 5 32 Tryz.underlying110 Tryz.underlying5 (fun w => Tryz.sizeOf5 w) x.2 x.2 h h
    rw [beq_self_eq_true] at this
    exact this
  rw [show (10000 : Nat) = 9999 + 1 from rfl, run_equalIn_agg w 9999 170 _ _ hS hp]
  simp only [Program.fieldsOf, Tryz.underlying170]
  have k0 : (kidL x)[0]? = some (.string (strOf x.1)) := rfl
  have ht : List.take 32 (kidL x).tail = x.2.map byteV := by rw [show (kidL x).tail = x.2.map byteV from rfl, List.take_of_length_le (by simp [h])]
  go_simp
open Go.Shelf
attribute [local go_sem] yUpon
end Go.Proofs.YteiblfcehlibpaaGreatDoor
namespace Go.Proofs.YteiblfcehlibpaaGreatDoor
open Go.RowKit Go.Shelf
attribute [local go_sem] yUpon strOf_toList
set_option maxRecDepth 100000 in
set_option maxHeartbeats 4000000 in
/-- One leaf. -/
theorem great7_calls (vs : List Sp.Ver) (A : Option Addr) (cap gb : Nat) (w : World) (hx : isBlk w gb 49 #[.slice A vs.length cap]) (h : Vers w A vs) :
    Calls Tryz.prog 54 #[.slice (some ⟨gb, 0, none⟩) 1 1] w fun e w' => ∃ b : Bool, e = .returned (.bool b) ∧ w = w' := by
  have HV := Lib.hid h
  have f0 := (hx.cell 0).trans rfl
  clear h hx
  go_enter Tryz.func54, Tryz.ntmps54
  go_wp2
  go_loopw [3] (fun v3 wr => ∃ k : Nat, k ≤ 1 ∧ v3 = .int .i64 k ∧ w = wr) (fun v3 _ => 1 - (intOf v3).toNat)
  case atStart => exact ⟨0, Nat.zero_le _, rfl, rfl⟩
  case round =>
    obtain ⟨k, hk, rfl, rfl⟩ := hrel
    by_cases hlt : k < 1
    · obtain rfl : k = 0 := by omega
      by_cases h70 : 70 < vs.length
      · have c1 : (70 : Int) < (vs.length : Int) := by omega
        go_wp2
        go_ret
        exact ⟨true, rfl, rfl⟩
      · have c1 : ¬ (70 : Int) < (vs.length : Int) := by omega
        have c2 : vs.length ≤ 70 := by omega
        go_wp2
        go_loopw [4, 5] (fun v4 v5 wr => ∃ (j n : Nat), j ≤ vs.length ∧ n ≤ 400 ∧ v4 = .int .i64 n ∧ v5 = .int .i64 j ∧ w = wr) (fun _ v5 _ => vs.length - (intOf v5).toNat)
        case atStart => exact ⟨0, 0, Nat.zero_le _, Nat.zero_le _, rfl, rfl, rfl⟩
        case round =>
          obtain ⟨j, n, hj, hn, rfl, rfl, rfl⟩ := hrel
          by_cases hjl : j < vs.length
          · obtain ⟨a, o, rfl, hat⟩ := HV.out.at (by omega)
            obtain ⟨A', cap', hv, hp⟩ := hat j hjl
            obtain ⟨x, hxx⟩ : ∃ x, x = vs[j] := ⟨_, rfl⟩
            rw [← hxx] at hv hp
            have g2 := hv.c2
            have g4 := hv.c4
            have hpl := hp.2
            obtain ⟨q, hq⟩ : ∃ q, q = x.past.length := ⟨_, rfl⟩
            rw [← hq] at g2 hpl
            obtain ⟨n2, hn2⟩ : ∃ n2, n2 = n + q := ⟨_, rfl⟩
            have w1 : IntKind.i64.wrap ((n : Int) + (q : Int)) = (n2 : Int) := by rw [IntKind.wrap_i64]; omega
            have b1 : (j : Int) < (vs.length : Int) := by omega
            clear hat hv hp hxx hq hn2
            by_cases h4 : 400 < n2
            · have e1 : (400 : Int) < (n2 : Int) := by omega
              go_wp2
              go_ret
              exact ⟨true, rfl, rfl⟩
            · have e1 : ¬ (400 : Int) < (n2 : Int) := by omega
              have e2 : n2 ≤ 400 := by omega
              by_cases h2 : 200 < (strOf x.data).size
              · have e3 : (200 : Int) < ((strOf x.data).size : Int) := by omega
                go_wp2
                go_ret
                first
                  | exact ⟨true, rfl, rfl⟩
                  | exact .inr rfl
                  | exact .inr ⟨rfl, rfl⟩
                  | (simp; done)
              · have e3 : ¬ (200 : Int) < ((strOf x.data).size : Int) := by omega
                go_wp2
                go_roundw
                case rel => exact ⟨j + 1, n2, by omega, e2, rfl, by go_num, by first | rfl | trivial⟩
                case measure => simp [intOf]; omega
          · obtain rfl : j = vs.length := by omega
            go_wp2
            go_roundw
            case rel => exact ⟨1, Nat.le_refl _, by go_num, by first | rfl | trivial⟩
            case measure => simp [intOf]
    · obtain rfl : k = 1 := by omega
      go_wp2
      go_ret
      exact ⟨false, rfl, rfl⟩
set_option maxRecDepth 100000 in
set_option maxHeartbeats 4000000 in
/-- Entries: what holds if they are not too much. -/
theorem great15_calls (l : List Sp.DE) (A : Option Addr) (cap most : Nat) (w : World) (h : EntsAt w A l) (hmost : most ≤ 1000) :
    Calls Tryz.prog 20 #[.slice A l.length cap, .int .i64 most] w fun e w' => ∃ b : Bool, e = .returned (.bool b) ∧ (b = false → l.length ≤ most ∧ ∀ e ∈ l, e.1.length ≤ 200) ∧ Ext w w' := by
  have HH := Lib.hid h
  clear h
  go_enter Tryz.func20, Tryz.ntmps20
  by_cases hm : most < l.length
  · have c1 : (most : Int) < (l.length : Int) := by omega
    go_wp2
    go_ret
    exact ⟨true, rfl, (fun h => by cases h), Ext.refl _⟩
  · have c1 : ¬ (most : Int) < (l.length : Int) := by omega
    have c0 : l.length ≤ most := by omega
    have CM := Lib.hid c0
    have cl : l.length ≤ 1000 := by omega
    go_wp2
    go_loopw [5] (fun v5 wr => ∃ k : Nat, k ≤ l.length ∧ v5 = .int .i64 k ∧ (∀ i (h : i < l.length), i < k → (l[i]).1.length ≤ 200) ∧ Ext w wr) (fun v5 _ => l.length - (intOf v5).toNat)
    case atStart => exact ⟨0, Nat.zero_le _, rfl, fun i h h0 => absurd h0 (Nat.not_lt_zero i), Ext.refl _⟩
    case round =>
      obtain ⟨k, hk, rfl, ha, hb⟩ := hrel
      have HA := Lib.hid ha
      have HB := Lib.hid hb
      clear ha
      by_cases hlt : k < l.length
      · obtain ⟨eb, eo, rfl, he⟩ := HH.out.at (by omega)
        obtain ⟨Av, cv, e0, e1, hv⟩ := he k hlt
        have e0' := hb.cell e0
        have e1' := hb.cell e1
        obtain ⟨x, hx⟩ : ∃ x, x = l[k] := ⟨_, rfl⟩
        rw [← hx] at e0' e1' hv
        have HX := Lib.hid hx
        have HV := Lib.hid hv
        have b1 : (k : Int) < (l.length : Int) := by omega
        clear he e0 e1 hx hv hb
        by_cases h2 : 200 < (strOf x.1).size
        · have d1 : (200 : Int) < ((strOf x.1).size : Int) := by omega
          go_wp2
          go_ret
          exact ⟨true, rfl, (fun h => by cases h), HB.out⟩
        · have d1 : ¬ (200 : Int) < ((strOf x.1).size : Int) := by omega
          have P200 := Lib.hid (show x.1.length ≤ 200 by rw [strOf_size] at h2; omega)
          go_wp2_with fail
          have GC := great7_calls x.2 Av cv wr.heap.size (wr.alloc (.cells #[.slice Av x.2.length cv] 49)) (heap_alloc_new _ _) (HV.out.ext (HB.out.trans (Ext.alloc _ _)))
          refine GC.mono ?_
          rintro e w1 ⟨b, rfl, hw1⟩
          have B1 := Lib.hid (show Ext w w1 by rw [← hw1]; exact HB.out.trans (Ext.alloc _ _))
          clear hw1 GC
          cases b with
          | true =>
            go_wp2
            go_ret
            exact ⟨true, rfl, (fun h => by cases h), B1.out⟩
          | false =>
            go_wp2
            refine ⟨⟨k + 1, by omega, by go_num, fun i hi h1 => ?_, B1.out⟩, by simp [intOf]; omega⟩
            by_cases hik : i = k
            · subst hik
              have := P200.out
              rw [HX.out] at this
              exact this
            · exact HA.out i hi (by omega)
      · obtain rfl : k = l.length := by omega
        go_wp2
        go_ret
        exact ⟨false, rfl, fun _ => ⟨CM.out, fun e he => by
          obtain ⟨i, hi, rfl⟩ := List.getElem_of_mem he
          exact HA.out i hi hi⟩, HB.out⟩
end Go.Proofs.YteiblfcehlibpaaGreatDoor
namespace Go.Proofs.YteiblfcehlibpaaGreatDoor
open Go.RowKit
namespace Sp
theorem nil_bytes : nbytes (nodeT .nil) = ([0, 0], 0) := by
  first | kernel_rfl | decide
theorem nil_sum : nsum (nodeT .nil) = sha [0, 0] := by
  unfold nsum
  rw [nil_bytes, if_neg (by decide)]
/-- The example's version, its path, its tree. -/
def exV : Ver := ⟨(1, 1), [], false, [120]⟩
def exP : Bs := [97, 47, 98]
theorem ex_code : setCode none exP [exV] = 0 := by rfl
theorem ex_len : (entriesO (withO none (split exP) [exV])).length = 1 := by rfl
theorem ex_find : (findS ((withO none (split exP) [exV]).getD .nil) [97]).isSome = true := by rfl
theorem ex_get : (nodeS ((withO none (split exP) [exV]).getD .nil) exP).1.length = 1 := by rfl
end Sp
end Go.Proofs.YteiblfcehlibpaaGreatDoor
namespace Go.Proofs.YteiblfcehlibpaaGreatDoor
open Go.RowKit Go.Shelf
attribute [local go_sem] yUpon strOf_toList
theorem ex_vers {w : World} {g : Nat} (h : isBlk w g 75 (verC none 0 Sp.exV)) : Vers w (some ⟨g, 0, none⟩) [Sp.exV] := by
  refine ⟨[(none, 0, Sp.exV)], rfl, fun _ => ⟨g, 0, rfl, fun j u hj => ?_⟩, fun x hx => ?_⟩
  · rw [Nat.zero_add, h.cell j]
    simpa [versC] using hj
  · rw [List.mem_singleton.1 hx]
    exact ⟨Cells.nil _ _, by decide⟩
theorem dig_guard : Tryz.prog.eqGuardType Tryz.prog.depth 110 = false := by kernel_rfl
theorem dig_eq (x : Sp.Bs) (h : x.length = 32) (w : World) : (Op.equalIn 10000 110 (.agg (digC x)) (.agg (digC x))).run Tryz.prog w = .ok true w := by
  have := run_equalIn_bytes (P := Tryz.prog) w 9998 110 5 32 Tryz.underlying110 Tryz.underlying5 (fun w => Tryz.sizeOf5 w) x x h h
  rw [beq_self_eq_true] at this
  exact this
end Go.Proofs.YteiblfcehlibpaaGreatDoor
