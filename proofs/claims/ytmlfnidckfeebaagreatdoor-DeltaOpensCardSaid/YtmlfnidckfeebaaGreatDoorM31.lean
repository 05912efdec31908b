/- Walks: the document's tree with a leaf at a path. Walks: the document's tree of some entries. The tree of some entries and the document's: plain. -/
import Derived.Deep.DeepCutAuto
import Derived.Test.YtmlfnidckfeebaaGreatDoorM30
namespace Go.Proofs.YtmlfnidckfeebaaGreatDoor
open Go.RowKit Go.Shelf
attribute [local go_sem] yUpon strOf_toList
theorem appEnt : AppStat Tryz.prog 22 43 2 40 := by
  refine ⟨Tryz.underlying22, by decide, by decide, ?_⟩
  obtain ⟨i0, hi, hz0, hz1, hz2⟩ := info_parts (show (Tryz.prog.info? 43).map (fun i => (i.zero, i.size, i.bytes)) = some (some (.agg #[.string ⟨#[]⟩, .slice none 0 0]), 2, 40) by kernel_rfl)
  exact ⟨i0, _, hi, hz0, hz1, hz2, rfl⟩
theorem entsC_snoc (m : List (Option Addr × Nat × Sp.DE)) (x : Option Addr × Nat × Sp.DE) : entsC (m ++ [x]) = entsC m ++ entC x := by
  induction m with
  | nil => simp [entsC]
  | cons y r ih => rw [List.cons_append, entsC, ih, entsC, List.append_assoc]
/-- Entries that are being gathered; their versions were there before. -/
def OutAt (w wr : World) (v : Value) (out : List Sp.DE) : Prop := ∃ m : List (Option Addr × Nat × Sp.DE), m.map (·.2.2) = out ∧ wr.ownsRow w.heap.size 43 2 v out.length (entsC m) ∧ ∀ x ∈ m, Vers w x.1 x.2.2.2
theorem OutAt.ext {w wr w' : World} {v : Value} {out : List Sp.DE} (h : OutAt w wr v out) (e : Ext wr w') : OutAt w w' v out := by
  obtain ⟨m, h1, h2, h3⟩ := h
  exact ⟨m, h1, own_ext h2 e, h3⟩
theorem OutAt.ents {w wr : World} {v : Value} {out : List Sp.DE} (h : OutAt w wr v out) (e : Ext w wr) : ∃ B c, v = .slice B out.length c ∧ EntsAt wr B out := by
  obtain ⟨m, h1, h2, h3⟩ := h
  obtain ⟨B, c, rfl, hc⟩ := own_read h2
  exact ⟨B, c, rfl, m, h1, hc, fun x hx => (h3 x hx).ext e⟩
namespace Sp
def rsetS (l : List DE) (p : Bs) (vs : List Ver) : List DE × Int := if check p ≠ 0 then ([], check p) else if leaf vs ≠ 0 then ([], leaf vs) else if 128 < (rset l p vs).length then ([], 4) else (rset l p vs, 0)
theorem rgo_len (p : Bs) (vs : List Ver) : ∀ (l : List DE) (b : Bool), (rgo p vs b l).length ≤ 2 * l.length + 1
  | [], b => by rw [rgo]; split <;> simp
  | e :: r, b => by
    have := rgo_len p vs r (b || decide (compare p e.1 ≤ 0))
    rw [rgo, List.length_append, List.length_append]
    split <;> split <;> simp <;> omega
end Sp
set_option maxRecDepth 100000 in
set_option maxHeartbeats 8000000 in
theorem rset_calls (l : List Sp.DE) (A : Option Addr) (cap : Nat) (p : Sp.Bs) (vs : List Sp.Ver) (Al : Option Addr) (cl : Nat) (w : World) (h : EntsAt w A l) (hl : l.length ≤ 1000) (hpl : ∀ e ∈ l, e.1.length ≤ 1000000) (hp : p.length ≤ 1000000) (hV : Vers w Al vs) :
    Calls Tryz.prog 72 #[.slice A l.length cap, .string (strOf p), .slice Al vs.length cl] w fun e w' => ∃ B c, e = .returned (.tuple #[.slice B (Sp.rsetS l p vs).1.length c, .int .i64 (Sp.rsetS l p vs).2]) ∧ EntsAt w' B (Sp.rsetS l p vs).1 ∧ Ext w w' := by
  have HH := Lib.hid h
  have HPL := Lib.hid hpl
  have HV := Lib.hid hV
  have CC := Lib.hid (rcheck_calls (strOf p) w (by rw [strOf_size]; omega))
  rw [strOf_data] at CC
  have NE := Lib.hid (show ∀ W, EntsAt W none [] from fun W => ⟨[], rfl, Cells.nil _ _, fun x h => by cases h⟩)
  clear h hpl hV
  go_enter Tryz.func72, Tryz.ntmps72
  go_wp2_with fail
  refine CC.out.mono ?_
  rintro e w1 ⟨rfl, hb1⟩
  have B1 := Lib.hid (show Ext w w1 from hb1)
  clear hb1 CC
  by_cases hc : Sp.check p = 0
  · rw [hc]
    have HC := Lib.hid hc
    clear hc
    go_wp2_with fail
    refine (rleaf_calls vs Al cl w1 (HV.out.ext B1.out)).mono ?_
    rintro e w2 ⟨rfl, hb2⟩
    have B2 := Lib.hid (B1.out.trans hb2)
    clear hb2
    by_cases hlf : Sp.leaf vs = 0
    · rw [hlf]
      have HLF := Lib.hid hlf
      have SS := Lib.hid (show Sp.rsetS l p vs = if 128 < (Sp.rset l p vs).length then ([], 4) else (Sp.rset l p vs, 0) by unfold Sp.rsetS; rw [if_neg (by simpa using HC.out), if_neg (by simpa using HLF.out)])
      obtain ⟨b0, hb0⟩ : ∃ b0 : Bool, ((vs.length : Int) == 0) = b0 := ⟨_, rfl⟩
      have B0 := Lib.hid (show b0 = decide (vs = []) by rw [← hb0]; cases vs with | nil => rfl | cons a r => rfl)
      obtain ⟨R, hR⟩ : ∃ R, R = Sp.rset l p vs := ⟨_, rfl⟩
      rw [← hR] at SS
      have RR := Lib.hid (show Sp.rgo p vs b0 l = R by rw [hR, Sp.rset, B0.out])
      have RLEN := Lib.hid (show R.length ≤ 2001 by rw [hR]; exact Nat.le_trans (Sp.rgo_len p vs l _) (by omega))
      clear hlf hR
      go_wp2
      go_loopw [9, 10, 11] (fun v9 v10 v11 wr => ∃ (k : Nat) (out : List Sp.DE) (v : Value) (b : Bool), k ≤ l.length ∧ v = v9 ∧ v10 = .bool b ∧ v11 = .int .i64 k ∧ OutAt w wr v out ∧ out ++ Sp.rgo p vs b (l.drop k) = R ∧ Ext w wr) (fun _ _ v11 _ => l.length - (intOf v11).toNat)
      case atStart => exact ⟨0, [], _, b0, Nat.zero_le _, rfl, rfl, rfl, ⟨[], rfl, World.ownsRow_nil _ _ _ _, fun x h => by cases h⟩, RR.out, B2.out⟩
      case round =>
        obtain ⟨k, out, v, b, hk2, rfl, rfl, rfl, ho, hr, hb⟩ := hrel
        have HO := Lib.hid ho
        have HB := Lib.hid hb
        have OLN := Lib.hid (show out.length ≤ 2001 by have := congrArg List.length hr; rw [List.length_append] at this; have := RLEN.out; omega)
        clear ho hb
        by_cases hlt : k < l.length
        · obtain ⟨eb, eo, rfl, he⟩ := HH.out.at (by omega)
          obtain ⟨Av, cv, c0, c1, hv⟩ := he k hlt
          obtain ⟨x, hx⟩ : ∃ x, x = l[k] := ⟨_, rfl⟩
          have XL := Lib.hid (show x.1.length ≤ 1000000 by rw [hx]; exact HPL.out _ (List.getElem_mem hlt))
          obtain ⟨le, hle⟩ : ∃ le : Bool, le = decide (Sp.compare p x.1 ≤ 0) := ⟨_, rfl⟩
          have RS := Lib.hid (show out ++ ((if b = false ∧ le = true then [(p, vs)] else []) ++ ((if x.1 = p then [] else [x]) ++ Sp.rgo p vs (b || le) (l.drop (k + 1)))) = R by
            rw [← hr, List.drop_eq_getElem_cons hlt, ← hx, Sp.rgo, hle]
            simp)
          rw [← hx] at c0 c1 hv
          have C0 := Lib.hid c0
          have C1 := Lib.hid c1
          have HVX := Lib.hid hv
          have HLE := Lib.hid hle
          have b1 : (k : Int) < (l.length : Int) := by omega
          have x0 := HB.out.cell c0
          clear hr he hx hv hle c0 c1
          go_upto_region 11 with fail
          go_cut [10, 41] (fun v10 v41 wx => v10 = .bool b ∧ v41 = .bool (!b && le) ∧ Ext wr wx)
          case first =>
            cases b with
            | true =>
              go_wp2
              go_meet
              case rel => exact ⟨rfl, rfl, Ext.refl _⟩
            | false =>
              go_wp2_with fail
              refine (rcompare_calls (strOf p) (strOf x.1) wr (by rw [strOf_size]; omega) (by rw [strOf_size]; have := XL.out; omega)).mono ?_
              rintro e w3 ⟨rfl, hb3⟩
              rw [strOf_data, strOf_data]
              have B3 := Lib.hid (show Ext wr w3 from hb3)
              obtain ⟨cc, hcc⟩ : ∃ cc, cc = Sp.compare p x.1 := ⟨_, rfl⟩
              rw [← hcc]
              have HCC := Lib.hid (show le = decide (cc ≤ 0) by rw [hcc]; exact HLE.out)
              clear hb3 hcc
              by_cases hc0 : cc ≤ 0
              · have r := Lib.hid (show le = true by rw [HCC.out]; exact decide_eq_true hc0)
                go_wp2
                go_meet
                case rel => exact ⟨rfl, by rw [r.out]; first | rfl | (simp; omega), B3.out⟩
              · have r := Lib.hid (show le = false by rw [HCC.out]; exact decide_eq_false hc0)
                go_wp2
                go_meet
                case rel => exact ⟨rfl, by rw [r.out]; first | rfl | (simp; omega), B3.out⟩
          case rest =>
            obtain ⟨rfl, rfl, hb3⟩ := hcut
            obtain ⟨w3, hw3⟩ : ∃ w3, w3 = wc := ⟨_, rfl⟩
            rw [← hw3] at hb3 ⊢
            have B3 := Lib.hid (show Ext wr w3 from hb3)
            have E3 := Lib.hid (HB.out.trans hb3)
            have O3 := Lib.hid (HO.out.ext hb3)
            obtain ⟨out1, ho1⟩ : ∃ out1, out1 = out ++ (if b = false ∧ le = true then [(p, vs)] else []) := ⟨_, rfl⟩
            have RS1 := Lib.hid (show out1 ++ ((if x.1 = p then [] else [x]) ++ Sp.rgo p vs (b || le) (l.drop (k + 1))) = R by rw [ho1, List.append_assoc]; exact RS.out)
            have HO1 := Lib.hid ho1
            obtain ⟨ins, hins⟩ : ∃ ins, ins = (!b && le) := ⟨_, rfl⟩
            rw [← hins]
            have HINS := Lib.hid hins
            clear hb3 hw3 ho1 hins
            go_upto_if 41 with fail
            go_cut [9, 10, 41] (fun v9 v10 _ wy => ∃ v1, v1 = v9 ∧ v10 = .bool (b || le) ∧ OutAt w wy v1 out1 ∧ Ext w wy)
            case first =>
              cases ins with
              | true =>
                have hbl := Lib.hid (show b = false ∧ le = true by have := HINS.out; revert this; cases b <;> cases le <;> simp)
                obtain ⟨m, hm1, hm2, hm3⟩ := O3.out
                have M1 := Lib.hid hm1
                have M3 := Lib.hid hm3
                have M2 := Lib.hid hm2
                clear hm1 hm2 hm3
                go_wp2_with (at_builtin; refine app_new appEnt rfl _ _ rfl w.heap.size _ out.length _ rfl M2.out #[.string (strOf p), .slice Al vs.length cl] 43 1 rfl rfl (by intro u hu; simp at hu; rcases hu with rfl | rfl <;> rfl) (by decide) (by have := OLN.out; omega) E3.out.size ?_; intro g4 cap4 w4 hown4 hgr4 hb4 hbg4; have O4 := Lib.hid hown4; have B4 := Lib.hid (Below.trans E3.out hb4); clear hown4 hgr4 hb4 hbg4)
                go_meet
                case rel =>
                  refine ⟨_, rfl, by rw [hbl.out.1, hbl.out.2]; rfl, ⟨m ++ [(Al, cl, (p, vs))], by rw [HO1.out, if_pos hbl.out, List.map_append, M1.out]; rfl, ?_, fun y hy => ?_⟩, B4.out⟩
                  · rw [HO1.out, if_pos hbl.out, List.length_append, entsC_snoc]
                    exact O4.out
                  · rcases List.mem_append.1 hy with hy | hy
                    · exact M3.out y hy
                    · rw [List.mem_singleton.1 hy]; exact HV.out
              | false =>
                have hbl := Lib.hid (show ¬ (b = false ∧ le = true) ∧ (b || le) = b by have := HINS.out; revert this; cases b <;> cases le <;> simp)
                go_wp2
                go_meet
                case rel => exact ⟨_, rfl, by rw [hbl.out.2], by rw [HO1.out, if_neg hbl.out.1, List.append_nil]; exact O3.out, E3.out⟩
            case rest =>
              obtain ⟨v1, rfl, rfl, ho1, he1⟩ := hcut
              obtain ⟨wy, hwy⟩ : ∃ wy, wy = wc := ⟨_, rfl⟩
              rw [← hwy] at ho1 he1 ⊢
              have OY := Lib.hid ho1
              have EY := Lib.hid he1
              have y0 := he1.cell C0.out
              have y1 := he1.cell C1.out
              obtain ⟨b2, hb2⟩ : ∃ b2, b2 = (b || le) := ⟨_, rfl⟩
              rw [← hb2] at RS1 ⊢
              have O1L := Lib.hid (show out1.length ≤ 2001 by have := congrArg List.length RS1.out; rw [List.length_append] at this; have := RLEN.out; omega)
              clear ho1 he1 hwy hb2
              by_cases hxp : x.1 = p
              · have e1 : (x.1 == p) = true := by rw [hxp]; exact beq_self_eq_true _
                have RS2 := Lib.hid (show out1 ++ Sp.rgo p vs b2 (l.drop (k + 1)) = R by have := RS1.out; rw [if_pos hxp, List.nil_append] at this; exact this)
                have HXP := Lib.hid hxp
                clear hxp
                go_wp2
                go_roundw
                case rel => exact ⟨k + 1, out1, _, b2, by omega, rfl, rfl, by go_num, OY.out, RS2.out, EY.out⟩
                case measure => simp [intOf]; omega
              · have e1 : (x.1 == p) = false := by rw [beq_eq_false_iff_ne]; exact hxp
                have RS2 := Lib.hid (show (out1 ++ [x]) ++ Sp.rgo p vs b2 (l.drop (k + 1)) = R by have := RS1.out; rw [if_neg hxp] at this; rw [List.append_assoc]; exact this)
                obtain ⟨m, hm1, hm2, hm3⟩ := OY.out
                have M1 := Lib.hid hm1
                have M3 := Lib.hid hm3
                have M2 := Lib.hid hm2
                clear hm1 hm2 hm3 hxp
                go_wp2_with (at_builtin; refine app_new appEnt rfl _ _ rfl w.heap.size _ out1.length _ rfl M2.out #[.string (strOf x.1), .slice Av x.2.length cv] 43 1 rfl rfl (by intro u hu; simp at hu; rcases hu with rfl | rfl <;> rfl) (by decide) (by have := O1L.out; omega) EY.out.size ?_; intro g4 cap4 w4 hown4 hgr4 hb4 hbg4; have O4 := Lib.hid hown4; have B4 := Lib.hid (Below.trans EY.out hb4); clear hown4 hgr4 hb4 hbg4)
                go_roundw
                case rel =>
                  refine ⟨k + 1, out1 ++ [x], _, b2, by omega, rfl, rfl, by go_num, ⟨m ++ [(Av, cv, x)], by rw [List.map_append, M1.out]; rfl, ?_, fun y hy => ?_⟩, RS2.out, B4.out⟩
                  · rw [List.length_append, entsC_snoc]
                    exact O4.out
                  · rcases List.mem_append.1 hy with hy | hy
                    · exact M3.out y hy
                    · rw [List.mem_singleton.1 hy]; exact HVX.out
                case measure => simp [intOf]; omega
        · obtain rfl : k = l.length := by omega
          rw [List.drop_length] at hr
          have HR := Lib.hid hr
          clear hr
          go_upto_if 63 with fail
          go_cut [9, 10, 62, 63] (fun v9 _ _ _ wx => ∃ v1, v1 = v9 ∧ OutAt w wx v1 R ∧ Ext w wx)
          case first =>
            cases b with
            | true =>
              go_wp2
              go_meet
              case rel => exact ⟨v, rfl, by have := HR.out; rw [Sp.rgo, if_pos rfl, List.append_nil] at this; rw [← this]; exact HO.out, HB.out⟩
            | false =>
              have HR2 := Lib.hid (show out ++ [(p, vs)] = R by have := HR.out; rw [Sp.rgo, if_neg (by decide)] at this; exact this)
              obtain ⟨m, hm1, hm2, hm3⟩ := HO.out
              have M1 := Lib.hid hm1
              have M3 := Lib.hid hm3
              have M2 := Lib.hid hm2
              clear hm1 hm2 hm3
              go_wp2_with (at_builtin; refine app_new appEnt rfl _ _ rfl w.heap.size _ out.length _ rfl M2.out #[.string (strOf p), .slice Al vs.length cl] 43 1 rfl rfl (by intro u hu; simp at hu; rcases hu with rfl | rfl <;> rfl) (by decide) (by have := OLN.out; omega) HB.out.size ?_; intro g4 cap4 w4 hown4 hgr4 hb4 hbg4; have O4 := Lib.hid hown4; have B4 := Lib.hid (Below.trans HB.out hb4); clear hown4 hgr4 hb4 hbg4)
              go_meet
              case rel =>
                refine ⟨_, rfl, ⟨m ++ [(Al, cl, (p, vs))], by rw [← HR2.out, List.map_append, M1.out]; rfl, ?_, fun y hy => ?_⟩, B4.out⟩
                · rw [← HR2.out, List.length_append, entsC_snoc]
                  exact O4.out
                · rcases List.mem_append.1 hy with hy | hy
                  · exact M3.out y hy
                  · rw [List.mem_singleton.1 hy]; exact HV.out
          case rest =>
            obtain ⟨v1, rfl, ho1, he1⟩ := hcut
            obtain ⟨wy, hwy⟩ : ∃ wy, wy = wc := ⟨_, rfl⟩
            rw [← hwy] at ho1 he1 ⊢
            obtain ⟨Bv, cv, rfl, hev⟩ := ho1.ents he1
            have HEV := Lib.hid hev
            have EY := Lib.hid he1
            clear ho1 he1 hwy hev
            by_cases h128 : 128 < R.length
            · have f1 : (128 : Int) < (R.length : Int) := by omega
              go_wp2
              go_ret2
              rw [SS.out, if_pos h128]
              exact ⟨none, 0, rfl, NE.out _, EY.out⟩
            · have f1 : ¬ (128 : Int) < (R.length : Int) := by omega
              go_wp2
              go_ret2
              rw [SS.out, if_neg h128]
              first
                | exact ⟨Bv, cv, rfl, HEV.out, EY.out⟩
                | exact ⟨Bv, ⟨cv, rfl⟩, HEV.out, EY.out⟩
    · have S := Lib.hid (show Sp.rsetS l p vs = ([], Sp.leaf vs) by unfold Sp.rsetS; rw [if_neg (by simpa using HC.out), if_pos hlf])
      have c1 : (Sp.leaf vs == 0) = false := by rw [beq_eq_false_iff_ne]; exact hlf
      clear hlf
      go_wp2
      go_ret2
      rw [S.out]
      exact ⟨none, 0, rfl, NE.out _, B2.out⟩
  · have S := Lib.hid (show Sp.rsetS l p vs = ([], Sp.check p) by unfold Sp.rsetS; rw [if_pos hc])
    have c1 : (Sp.check p == 0) = false := by rw [beq_eq_false_iff_ne]; exact hc
    clear hc
    go_wp2
    go_ret2
    rw [S.out]
    exact ⟨none, 0, rfl, NE.out _, B1.out⟩
end Go.Proofs.YtmlfnidckfeebaaGreatDoor
namespace Go.Proofs.YtmlfnidckfeebaaGreatDoor
open Go.RowKit Go.Shelf
attribute [local go_sem] yUpon strOf_toList
namespace Sp
def rof : List DE → List DE → List DE × Int
  | m, [] => (m, 0)
  | m, e :: r => if (rsetS m e.1 e.2).2 ≠ 0 then ([], (rsetS m e.1 e.2).2) else rof (rsetS m e.1 e.2).1 r
theorem rgo_mem (p : Bs) (vs : List Ver) : ∀ (l : List DE) (b : Bool), ∀ e ∈ rgo p vs b l, e = (p, vs) ∨ e ∈ l
  | [], b, e, h => by
    rw [rgo] at h
    split at h
    · cases h
    · exact .inl (List.mem_singleton.1 h)
  | x :: r, b, e, h => by
    rw [rgo] at h
    rcases List.mem_append.1 h with h | h
    · split at h
      · exact .inl (List.mem_singleton.1 h)
      · cases h
    · rcases List.mem_append.1 h with h | h
      · split at h
        · cases h
        · rw [List.mem_singleton.1 h]; exact .inr (List.mem_cons_self ..)
      · rcases rgo_mem p vs r _ e h with h | h
        · exact .inl h
        · exact .inr (List.mem_cons_of_mem _ h)
/-- Entries that the document has gathered. -/
def GoodM (m : List DE) : Prop := Paths m ∧ m.length ≤ 128
theorem rsetS_ok {m : List DE} {p : Bs} {vs : List Ver} (h : (rsetS m p vs).2 = 0) : check p = 0 ∧ leaf vs = 0 ∧ (rsetS m p vs).1 = rset m p vs ∧ (rset m p vs).length ≤ 128 := by
  unfold rsetS at h ⊢
  by_cases h1 : check p = 0
  · rw [if_neg (by simpa using h1)] at h ⊢
    by_cases h2 : leaf vs = 0
    · rw [if_neg (by simpa using h2)] at h ⊢
      by_cases h3 : 128 < (rset m p vs).length
      · rw [if_pos h3] at h; exact absurd h (by decide)
      · rw [if_neg h3]; exact ⟨h1, h2, rfl, by omega⟩
    · rw [if_pos h2] at h; exact absurd h h2
  · rw [if_pos h1] at h; exact absurd h h1
theorem rsetS_good {m : List DE} {p : Bs} {vs : List Ver} (hm : GoodM m) (h : (rsetS m p vs).2 = 0) : GoodM (rsetS m p vs).1 := by
  obtain ⟨h1, _, h3, h4⟩ := rsetS_ok h
  rw [h3]
  refine ⟨fun e he => ?_, h4⟩
  rcases rgo_mem p vs m _ e he with rfl | he
  · exact h1
  · exact hm.1 e he
theorem goodM_nil : GoodM [] := ⟨(fun e h => by cases h), Nat.zero_le _⟩
theorem rof_good : ∀ (l m : List DE), GoodM m → GoodM (rof m l).1
  | [], m, h => h
  | e :: r, m, h => by
    rw [rof]
    by_cases hc : (rsetS m e.1 e.2).2 = 0
    · rw [if_neg (by simpa using hc)]; exact rof_good r _ (rsetS_good h hc)
    · rw [if_pos hc]; exact goodM_nil
theorem good_len {m : List DE} (h : GoodM m) : ∀ e ∈ m, e.1.length ≤ 1000000 := fun e he => Nat.le_trans (check_parts (h.1 e he)).2.1 (by decide)
end Sp
set_option maxRecDepth 100000 in
set_option maxHeartbeats 4000000 in
theorem rof_calls (l : List Sp.DE) (A : Option Addr) (cap : Nat) (w : World) (h : EntsAt w A l) (hl : l.length ≤ 1000000) (hpl : ∀ e ∈ l, e.1.length ≤ 1000000) :
    Calls Tryz.prog 18 #[.slice A l.length cap] w fun e w' => ∃ B c, e = .returned (.tuple #[.slice B (Sp.rof [] l).1.length c, .int .i64 (Sp.rof [] l).2]) ∧ EntsAt w' B (Sp.rof [] l).1 ∧ Ext w w' := by
  have HH := Lib.hid h
  have HPL := Lib.hid hpl
  have NE := Lib.hid (show ∀ W, EntsAt W none [] from fun W => ⟨[], rfl, Cells.nil _ _, fun x h => by cases h⟩)
  clear h hpl
  go_enter Tryz.func18, Tryz.ntmps18
  go_wp2
  go_loopw [4, 5] (fun v4 v5 wr => ∃ (k : Nat) (m : List Sp.DE) (Bm : Option Addr) (cm : Nat), k ≤ l.length ∧ v4 = .slice Bm m.length cm ∧ v5 = .int .i64 k ∧ EntsAt wr Bm m ∧ Sp.GoodM m ∧ Sp.rof m (l.drop k) = Sp.rof [] l ∧ Ext w wr) (fun _ v5 _ => l.length - (intOf v5).toNat)
  case atStart => exact ⟨0, [], none, 0, Nat.zero_le _, rfl, rfl, NE.out _, Sp.goodM_nil, rfl, Ext.refl _⟩
  case round =>
    obtain ⟨k, m, Bm, cm, hk2, rfl, rfl, hm, hg, hr, hb⟩ := hrel
    have HM := Lib.hid hm
    have HG := Lib.hid hg
    have HB := Lib.hid hb
    clear hm hg hb
    by_cases hlt : k < l.length
    · obtain ⟨eb, eo, rfl, he⟩ := HH.out.at (by omega)
      obtain ⟨Av, cv, c0, c1, hv⟩ := he k hlt
      obtain ⟨x, hx⟩ : ∃ x, x = l[k] := ⟨_, rfl⟩
      have XL := Lib.hid (show x.1.length ≤ 1000000 by rw [hx]; exact HPL.out _ (List.getElem_mem hlt))
      have RS := Lib.hid (show Sp.rof m (x :: l.drop (k + 1)) = Sp.rof [] l by rw [← hr, List.drop_eq_getElem_cons hlt, hx])
      rw [← hx] at c0 c1 hv
      have SC := Lib.hid (rset_calls m Bm cm x.1 x.2 Av cv wr.drew (HM.out.ext (Ext.refl wr).drew) (Nat.le_trans HG.out.2 (by decide)) (Sp.good_len HG.out) XL.out ((hv.ext HB.out).ext (Ext.refl wr).drew))
      have b1 : (k : Int) < (l.length : Int) := by omega
      have x0 := HB.out.cell c0
      have x1 := HB.out.cell c1
      have tokL : True := trivial
      clear hr he hx hv c0 c1
      go_wp2_with fail
      go_region_law (have _tL := tokL; refine step_call rfl 72 #[.slice Bm m.length cm, .string (strOf x.1), .slice Av x.2.length cv] (by go_simp) SC.out ?_; rintro e w3 ⟨B3, c3, rfl, he3, hb3⟩; have HE3 := Lib.hid he3; have B3' := Lib.hid (show Ext wr w3 from Below.trans (Below.refl _ _).drew hb3); clear he3 hb3 tokL _tL; refine ⟨_, rfl, ?_⟩)
      all_goals (
        obtain ⟨cc, hcc⟩ : ∃ cc, cc = (Sp.rsetS m x.1 x.2).2 := ⟨_, rfl⟩
        rw [← hcc]
        by_cases hc : cc = 0
        · have hz : (Sp.rsetS m x.1 x.2).2 = 0 := by rw [← hcc]; exact hc
          have G2 := Lib.hid (Sp.rsetS_good HG.out hz)
          have RS2 := Lib.hid (show Sp.rof (Sp.rsetS m x.1 x.2).1 (l.drop (k + 1)) = Sp.rof [] l by
            have := RS.out
            rw [Sp.rof, if_neg (by simpa using hz)] at this
            exact this)
          subst hc
          clear hcc hz
          go_wp2
          refine ⟨⟨k + 1, _, B3, c3, by omega, rfl, by go_num, HE3.out, G2.out, RS2.out, HB.out.trans B3'.out⟩, by simp [intOf]; omega⟩
        · have RS2 := Lib.hid (show Sp.rof [] l = ([], cc) by
            have := RS.out
            rw [Sp.rof, if_pos (by rw [← hcc]; exact hc), ← hcc] at this
            exact this.symm)
          have e1 : (cc == 0) = false := by rw [beq_eq_false_iff_ne]; exact hc
          clear hcc hc
          go_wp2
          go_ret2
          rw [RS2.out]
          first
            | exact ⟨none, 0, rfl, NE.out _, HB.out.trans B3'.out⟩
            | exact ⟨none, ⟨0, rfl⟩, NE.out _, HB.out.trans B3'.out⟩)
    · obtain rfl : k = l.length := by omega
      rw [List.drop_length] at hr
      have RG := Lib.hid (show (m, (0 : Int)) = Sp.rof [] l from hr)
      clear hr
      go_wp2
      go_ret2
      rw [← RG.out]
      first
        | exact ⟨Bm, cm, rfl, HM.out, HB.out⟩
        | exact ⟨Bm, ⟨cm, rfl⟩, HM.out, HB.out⟩
end Go.Proofs.YtmlfnidckfeebaaGreatDoor
namespace Go.Proofs.YtmlfnidckfeebaaGreatDoor
open Go.RowKit
namespace Sp
theorem toP_len (m : List DE) : (toP m).length = m.length := List.length_map ..
theorem riseO {o : Option T} (h : ∀ t, o = some t → Ok t) : RiseE (entriesO o) := by
  cases o with
  | none => exact List.Pairwise.nil
  | some t => exact entries_rise t (h t rfl)
/-- What a leaf at a path comes to, in the tree and in the document's list. -/
theorem set_both {o : Option T} {m : List DE} (he : toP m = entriesO o) (ho : GoodO o) (p : Bs) (l : List Ver) :
    (rsetS m p l).2 = setCode o p l ∧ (setCode o p l = 0 → toP (rsetS m p l).1 = entriesO (withO o (split p) l)) := by
  have e1 : toP (rset m p l) = entriesO (withO o (split p) l) := by
    rw [rgo_setE p l m (by rw [he]; exact riseO ho.1), he, with_entries _ _ _ ho.1]
  have e2 : (rset m p l).length = (entriesO (withO o (split p) l)).length := by rw [← e1, toP_len]
  by_cases h1 : check p = 0
  · by_cases h2 : leaf l = 0
    · by_cases h3 : 128 < (entriesO (withO o (split p) l)).length
      · have a1 : rsetS m p l = ([], 4) := by unfold rsetS; rw [if_neg (by simpa using h1), if_neg (by simpa using h2), if_pos (by rw [e2]; exact h3)]
        have a2 : setCode o p l = 4 := by unfold setCode; rw [if_neg (by simpa using h1), if_neg (by simpa using h2), if_pos h3]
        rw [a1, a2]; exact ⟨rfl, fun h => absurd h (by decide)⟩
      · have a1 : rsetS m p l = (rset m p l, 0) := by unfold rsetS; rw [if_neg (by simpa using h1), if_neg (by simpa using h2), if_neg (by rw [e2]; exact h3)]
        have a2 : setCode o p l = 0 := by unfold setCode; rw [if_neg (by simpa using h1), if_neg (by simpa using h2), if_neg h3]
        rw [a1, a2]; exact ⟨rfl, fun _ => e1⟩
    · have a1 : rsetS m p l = ([], leaf l) := by unfold rsetS; rw [if_neg (by simpa using h1), if_pos h2]
      have a2 : setCode o p l = leaf l := by unfold setCode; rw [if_neg (by simpa using h1), if_pos h2]
      rw [a1, a2]; exact ⟨rfl, fun h => absurd h h2⟩
  · have a1 : rsetS m p l = ([], check p) := by unfold rsetS; rw [if_pos h1]
    have a2 : setCode o p l = check p := by unfold setCode; rw [if_pos h1]
    rw [a1, a2]; exact ⟨rfl, fun h => absurd h h1⟩
theorem of_both : ∀ (l : List DE) (o : Option T) (m : List DE), toP m = entriesO o → GoodO o → (rof m l).2 = (ofT o l).2 ∧ toP (rof m l).1 = entriesO (ofT o l).1
  | [], o, m, he, _ => ⟨rfl, he⟩
  | e :: r, o, m, he, ho => by
    obtain ⟨s1, s2⟩ := set_both he ho e.1 e.2
    rw [rof, ofT, s1]
    by_cases hc : setCode o e.1 e.2 = 0
    · rw [if_neg (by simpa using hc), if_neg (by simpa using hc)]
      exact of_both r _ _ (s2 hc) (setCode_good hc ho)
    · rw [if_pos hc, if_pos hc]; exact ⟨rfl, rfl⟩
theorem entries_getD (o : Option T) : entries (o.getD .nil) = entriesO o := by
  cases o with
  | none => rfl
  | some t => rfl
theorem check_of_parts {d : Bs} (h : parts d ≠ []) : check d = 0 := by
  have h51 : ¬ 51 < d.length := fun hh => h (by unfold parts; rw [if_pos hh])
  unfold check
  rw [if_neg h51, if_neg (fun hh => h (List.eq_nil_of_length_eq_zero hh))]
theorem rget_bad {m : List DE} (hm : Paths m) {d : Bs} (h : check d ≠ 0) : rget m d = [] := by
  induction m with
  | nil => rfl
  | cons e r ih =>
    rw [rget, if_neg (fun hh => h (by rw [← hh]; exact hm e (List.mem_cons_self ..)))]
    exact ih fun x hx => hm x (List.mem_cons_of_mem _ hx)
theorem under_bad2 {p d : Bs} (h1 : d ≠ []) (h2 : parts d = []) : under p d = false := by
  unfold under
  simp [h1, h2]
theorem rnames_bad {d : Bs} (h1 : d ≠ []) (h2 : parts d = []) : ∀ (m : List DE) (out : List Bs), rnames d out m = out
  | [], _ => rfl
  | e :: r, out => by rw [rnames, under_bad2 h1 h2]; exact rnames_bad h1 h2 r out
/-- What the document finds at a directory is what the tree has there. -/
theorem at_both {o : Option T} {m : List DE} (he : toP m = entriesO o) (ho : GoodO o) (hm : GoodM m) (d : Bs) (hd : Dir d) :
    subs (toP m) (parts d) = entriesO (findT (o.getD .nil) (parts d)) ∧ ∀ s, findT (o.getD .nil) (parts d) = some s → Ok s ∧ rget m d = s.leaf ∧ rnames d [] m = s.kids.map (·.1) := by
  have hk : Ok (o.getD .nil) := by
    cases o with
    | none => exact ⟨fun h => absurd rfl h, List.Pairwise.nil, trivial⟩
    | some t => exact ho.1 t rfl
  obtain ⟨f1, f2⟩ := findT_subs (parts d) (o.getD .nil) hk
  rw [entries_getD, ← he] at f1
  refine ⟨f1, fun s hs => ?_⟩
  rw [hs] at f1
  have hok := f2 s hs
  refine ⟨hok, ?_, ?_⟩
  · rw [get_subs m hm.1 d hd, f1]
    cases s with
    | mk leaf k => exact get0_entries leaf k
  · rw [names_subs d hd m hm.1 [], f1]
    cases s with
    | mk leaf k => exact namesE_entries leaf k hok.2.1 hok.2.2
theorem there_both {o : Option T} {m : List DE} (he : toP m = entriesO o) (ho : GoodO o) (hm : GoodM m) (d : Bs) : rthere m d = (findS (o.getD .nil) d).isSome := by
  have hk : Ok (o.getD .nil) := by
    cases o with
    | none => exact ⟨fun h => absurd rfl h, List.Pairwise.nil, trivial⟩
    | some t => exact ho.1 t rfl
  unfold rthere findS
  by_cases hd : d = []
  · simp [hd]
  · by_cases hp : parts d = []
    · have hc : check d ≠ 0 := fun h => by
        have h2 := (check_parts h).1
        rw [hp] at h2
        exact split_ne d h2.symm
      rw [rget_bad hm.1 hc, rnames_bad hd hp]
      simp [hd, hp]
    · have hdir : Dir d := .inr (check_of_parts hp)
      obtain ⟨f1, f2⟩ := at_both he ho hm d hdir
      rw [if_neg hd, if_neg hp]
      cases hf : findT (o.getD .nil) (parts d) with
      | none =>
        rw [hf] at f1
        rw [get_subs m hm.1 d hdir, names_subs d hdir m hm.1 [], f1]
        simp [hd, entriesO, get0, namesE]
      | some s =>
        obtain ⟨g1, g2, g3⟩ := f2 s hf
        have hne := findT_ne (parts d) (o.getD .nil) s hk hp hf
        rw [g2, g3]
        cases s with
        | mk leaf k =>
          by_cases hl : leaf = []
          · by_cases hkk : k = []
            · exact absurd (by rw [hl, hkk]; rfl) hne
            · simp [T.leaf, T.kids, hkk]
          · simp [T.leaf, hl]
end Sp
end Go.Proofs.YtmlfnidckfeebaaGreatDoor
