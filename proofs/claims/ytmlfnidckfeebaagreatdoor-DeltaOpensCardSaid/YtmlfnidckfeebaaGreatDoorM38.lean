/- Deltas: what the document says is opened, and where leaves differ. A struct that is built, as one operation of a walk. Deltas: what two nodes have by a name (rows of 67 cells). -/
import Derived.Test.YtmlfnidckfeebaaGreatDoorM09
import Derived.Test.YtmlfnidckfeebaaGreatDoorM34
import Derived.Test.YtmlfnidckfeebaaGreatDoorM37
import Derived.Test.YtmlfnidckfeebaaGreatDoorM23
import Derived.Test.YtmlfnidckfeebaaGreatDoorM28
namespace Go.Proofs.YtmlfnidckfeebaaGreatDoor
open Go.RowKit Go.Shelf
attribute [local go_sem] yUpon strOf_toList
namespace Sp
/-- The paths at which leaves differ, of those that are opened. -/
def dkeep (ma mb : List DE) (d : Bs) : Bool := decide (d ≠ []) && !decide (rget ma d = rget mb d)
theorem rget_mem : ∀ (m : List DE) (d : Bs), rget m d = [] ∨ ∃ e ∈ m, rget m d = e.2
  | [], d => .inl rfl
  | e :: r, d => by
    by_cases h : e.1 = d
    · exact .inr ⟨e, List.mem_cons_self .., by rw [rget, if_pos h]⟩
    · rcases rget_mem r d with h2 | ⟨x, hx, h2⟩
      · exact .inl (by rw [rget, if_neg h, h2])
      · exact .inr ⟨x, List.mem_cons_of_mem _ hx, by rw [rget, if_neg h, h2]⟩
theorem filter_take {α : Type} (p : α → Bool) (l : List α) (k : Nat) (h : k < l.length) : (l.take (k + 1)).filter p = (l.take k).filter p ++ if p l[k] = true then [l[k]] else [] := by
  rw [List.take_succ_eq_append_getElem h, List.filter_append]
  congr 1
  cases hp : p l[k] <;> simp [hp]
end Sp
set_option maxRecDepth 100000 in
theorem ropened_calls (oa ob : Option Sp.T) (ma mb : List Sp.DE) (PA : Sp.Both oa ma) (PB : Sp.Both ob mb) (A B : Option Addr) (cap cap' : Nat) (w : World) (hA : EntsAt w A ma) (hB : EntsAt w B mb) (K : KeysAt w 0) :
    Calls Tryz.prog 21 #[.slice A ma.length cap, .slice B mb.length cap'] w fun e w' => ∃ v, e = .returned v ∧ w'.ownsRow w.heap.size 9 1 v (Sp.openS oa ob (ma ++ mb) 5 []).length (strsC (Sp.openS oa ob (ma ++ mb) 5 [])) ∧ Ext w w' := by
  have RO := Lib.hid (ropen_calls oa ob ma mb PA PB A B cap cap' 5 [] w (by decide) (by decide) (.inl rfl) hA hB K)
  clear PA PB hA hB K
  go_enter Tryz.func21, Tryz.ntmps21
  go_wp2_with fail
  refine RO.out.mono ?_
  rintro e w1 ⟨v1, rfl, hO1, hb1⟩
  have O1 := Lib.hid hO1
  have E1 := Lib.hid hb1
  clear hO1 hb1 RO
  go_wp2
  go_ret
  exact ⟨_, rfl, O1.out, E1.out⟩
set_option maxRecDepth 100000 in
set_option maxHeartbeats 4000000 in
theorem rdiffer_calls (oa ob : Option Sp.T) (ma mb : List Sp.DE) (PA : Sp.Both oa ma) (PB : Sp.Both ob mb) (A B : Option Addr) (cap cap' : Nat) (w : World) (hA : EntsAt w A ma) (hB : EntsAt w B mb) (K : KeysAt w 0) :
    Calls Tryz.prog 23 #[.slice A ma.length cap, .slice B mb.length cap'] w fun e w' => ∃ v, e = .returned v ∧ w'.ownsRow w.heap.size 9 1 v ((Sp.openS oa ob (ma ++ mb) 5 []).filter (Sp.dkeep ma mb)).length (strsC ((Sp.openS oa ob (ma ++ mb) 5 []).filter (Sp.dkeep ma mb))) ∧ Ext w w' := by
  have RO := Lib.hid (ropened_calls oa ob ma mb PA PB A B cap cap' w hA hB K)
  have LL := Sp.openS_len oa ob (ma ++ mb) (by have := PA.gm.2; have := PB.gm.2; rw [List.length_append]; omega) 5 []
  have p5' : (257 : Nat) ^ 5 = 1121154893057 := by decide
  rw [p5'] at LL
  obtain ⟨L, hL⟩ : ∃ L, L = Sp.openS oa ob (ma ++ mb) 5 [] := ⟨_, rfl⟩
  rw [← hL] at RO LL ⊢
  have HA := Lib.hid hA
  have HB := Lib.hid hB
  have la := PA.gm.2
  have lb := PB.gm.2
  have RGA := Lib.hid fun d W (e : Ext w W) => rget_calls ma A cap d W (HA.out.ext e) (by omega)
  have RGB := Lib.hid fun d W (e : Ext w W) => rget_calls mb B cap' d W (HB.out.ext e) (by omega)
  have VL := Lib.hid (show ∀ d, (Sp.rget ma d).length ≤ 140737488351232 from fun d => by
    rcases Sp.rget_mem ma d with h | ⟨e, he, h⟩
    · rw [h]; exact Nat.zero_le _
    · rw [h]; exact Nat.le_trans (PA.leaf e he) (by decide))
  clear hL PA PB hA hB K p5'
  go_enter Tryz.func23, Tryz.ntmps23
  go_wp2_with fail
  refine RO.out.mono ?_
  rintro e w1 ⟨v1, rfl, hO1, hb1⟩
  obtain ⟨A1, c1, rfl, hc1⟩ := own_read hO1
  have N1 := Lib.hid (show Nams w1 A1 L from hc1)
  have E1 := Lib.hid hb1
  clear hO1 hb1 hc1 RO
  go_wp2
  go_loopw [5, 7] (fun v5 v7 wr => ∃ k : Nat, k ≤ L.length ∧ v7 = .int .i64 k ∧ wr.ownsRow w1.heap.size 9 1 v5 ((L.take k).filter (Sp.dkeep ma mb)).length (strsC ((L.take k).filter (Sp.dkeep ma mb))) ∧ Ext w1 wr) (fun _ v7 _ => L.length - (intOf v7).toNat)
  case atStart => exact ⟨0, Nat.zero_le _, rfl, World.ownsRow_nil _ _ _ _, Ext.refl _⟩
  case round =>
    obtain ⟨k, hk, rfl, hO, hb⟩ := hrel
    by_cases hlt : k < L.length
    · obtain ⟨nb, no, rfl, hnm⟩ := N1.out.at (by omega)
      have C0 := Lib.hid (hnm k hlt)
      have FT := Lib.hid (Sp.filter_take (Sp.dkeep ma mb) L k hlt)
      have ql : ((L.take k).filter (Sp.dkeep ma mb)).length ≤ k := Nat.le_trans (List.length_filter_le _ _) (List.length_take_le _ _)
      obtain ⟨q, hq⟩ : ∃ q, q = (L.take k).filter (Sp.dkeep ma mb) := ⟨_, rfl⟩
      rw [← hq] at hO FT ql
      obtain ⟨x, hx⟩ : ∃ x, x = L[k] := ⟨_, rfl⟩
      rw [← hx] at C0 FT
      have HX := Lib.hid hb
      have HO := Lib.hid hO
      have EX := Lib.hid (E1.out.trans hb)
      have b1 : (k : Int) < (L.length : Int) := by omega
      have GA := Lib.hid (RGA.out x)
      have GB := Lib.hid (RGB.out x)
      have VX := Lib.hid (VL.out x)
      have DK := Lib.hid (show Sp.dkeep ma mb x = (decide (x ≠ []) && !decide (Sp.rget ma x = Sp.rget mb x)) from rfl)
      obtain ⟨p, hp⟩ : ∃ p, p = Sp.dkeep ma mb x := ⟨_, rfl⟩
      rw [← hp] at FT DK
      obtain ⟨lx, hlx⟩ : ∃ lx, lx = Sp.rget ma x := ⟨_, rfl⟩
      obtain ⟨ly, hly⟩ : ∃ ly, ly = Sp.rget mb x := ⟨_, rfl⟩
      rw [← hlx] at GA VX DK
      rw [← hly] at GB DK
      clear hb hO hq hx hnm hp hlx hly
      go_upto_region 6 with fail
      go_cut [37] (fun v37 wx => v37 = .bool p ∧ Ext wr wx)
      case first =>
        go_wp2_with fail
        refine wp_region_planT (fun W => Ext wr W) 19 [(true, 0), (true, 1), (true, 2), (true, 3), (true, 4), (true, 5), (true, 6), (true, 7), (true, 8), (true, 9), (true, 10), (true, 12), (true, 13), (true, 14), (true, 15), (true, 16), (false, 11), (false, 17), (false, 18)] (by kernel_rfl) (by kernel_rfl) (Ext.refl wr).drew ?_
        by_cases hx0 : x = []
        · have q1 : (x == []) = true := by rw [hx0]; rfl
          have q2 : x.isEmpty = true := by rw [hx0]; rfl
          have P0 := Lib.hid (show p = false by rw [DK.out, hx0]; rfl)
          clear hx0
          repeat (refine plan_float rfl (fun K hK => ?_)
                  first
                  | (apply Exists.intro
                     refine ⟨Or.inl ⟨rfl, fun W hS => ?_⟩, ?_⟩
                     · have hz : Ext wr W := hS; have f0 := (HX.out.trans hz).cell C0.out
                       go_simp
                       first | done | exact rfl
                     go_simp
                     refine hK _ ?_
                     clear hK K)
                  | (refine floatT_no' rfl ?_; go_simp; refine hK _ ?_; clear hK K))
          refine plan_only rfl (fun Q' hQ' => ?_)
          go_wp2
          refine hQ' _ _ (Ext.refl wr).drew ?_
          clear hQ'
          refine plan_only rfl (fun Q' hQ' => ?_)
          go_wp2
          refine hQ' _ _ (Ext.refl wr).drew ?_
          clear hQ'
          refine plan_only rfl (fun Q' hQ' => ?_)
          go_wp2
          refine hQ' _ _ (Ext.refl wr).drew ?_
          clear hQ'
          refine plan_nil ?_
          go_wp2
          refine ⟨rfl, ?_⟩
          go_wp2
          go_meet
          case rel => exact ⟨by rw [P0.out], (Ext.refl wr).drew⟩
        · have q1 : (x == []) = false := by rw [beq_eq_false_iff_ne]; exact hx0
          have q2 : x.isEmpty = false := by cases x with | nil => exact absurd rfl hx0 | cons _ _ => rfl
          have P0 := Lib.hid (show p = !decide (lx = ly) by rw [DK.out, decide_eq_true hx0, Bool.true_and])
          clear hx0
          repeat (refine plan_float rfl (fun K hK => ?_)
                  first
                  | (apply Exists.intro
                     refine ⟨Or.inl ⟨rfl, fun W hS => ?_⟩, ?_⟩
                     · have hz : Ext wr W := hS; have f0 := (HX.out.trans hz).cell C0.out
                       go_simp
                       first | done | exact rfl
                     go_simp
                     refine hK _ ?_
                     clear hK K)
                  | (refine floatT_no' rfl ?_; go_simp; refine hK _ ?_; clear hK K))
          refine plan_only rfl (fun Q' hQ' => ?_)
          go_wp2_with fail
          refine (GA.out _ (EX.out.trans (Ext.refl wr).drew)).mono ?_
          rintro e w6 ⟨Aa, ca, rfl, hva, rfl⟩
          have VA := Lib.hid hva
          clear hva
          go_wp2
          refine hQ' _ _ (Ext.refl wr).drew ?_
          clear hQ'
          refine plan_only rfl (fun Q' hQ' => ?_)
          go_wp2_with fail
          refine (GB.out _ (EX.out.trans (Ext.refl wr).drew)).mono ?_
          rintro e w6 ⟨Ab, cb, rfl, hvb, rfl⟩
          have VB := Lib.hid hvb
          clear hvb
          go_wp2
          refine hQ' _ _ (Ext.refl wr).drew ?_
          clear hQ'
          refine plan_only rfl (fun Q' hQ' => ?_)
          go_wp2_with fail
          refine (rsame_calls lx ly Aa Ab ca cb _ VA.out VB.out VX.out).mono ?_
          rintro e w7 ⟨rfl, hb7⟩
          have E7 := Lib.hid (show Ext wr w7 from ((Ext.refl wr).drew).trans hb7)
          clear hb7
          go_wp2
          refine hQ' _ _ E7.out ?_
          clear hQ'
          refine plan_nil ?_
          go_wp2
          refine ⟨rfl, ?_⟩
          go_wp2
          go_meet
          case rel => exact ⟨by rw [P0.out], E7.out⟩
      case rest =>
        obtain ⟨rfl, hbx⟩ := hcut
        obtain ⟨wx, hwx⟩ : ∃ wx, wx = wc := ⟨_, rfl⟩
        rw [← hwx] at hbx ⊢
        have EW := Lib.hid (HX.out.trans hbx)
        have OW := Lib.hid (own_ext HO.out hbx)
        have f0 := EW.out.cell C0.out
        clear hbx hwx
        cases p with
        | false =>
          have FT2 := Lib.hid (show (L.take (k + 1)).filter (Sp.dkeep ma mb) = q by rw [FT.out]; simp)
          go_wp2
          go_roundw
          case rel => exact ⟨k + 1, by omega, by go_num, by rw [FT2.out]; exact OW.out, EW.out⟩
          case measure => simp [intOf]; omega
        | true =>
          have FT2 := Lib.hid (show (L.take (k + 1)).filter (Sp.dkeep ma mb) = q ++ [x] by rw [FT.out]; simp)
          have tokA : True := trivial
          go_wp2_with (have _t := tokA; at_builtin; refine app_new appStr rfl _ _ rfl w1.heap.size _ q.length _ rfl OW.out #[.string (strOf x)] 9 1 rfl rfl (by intro u hu; simp at hu; subst hu; rfl) (by decide) (by omega) EW.out.size ?_; intro g9 cap9 w9 hown9 hgr9 hb9 hbg9; have O9 := Lib.hid hown9; have B9 := Lib.hid (Below.trans EW.out hb9); clear tokA _t hown9 hgr9 hb9 hbg9)
          go_roundw
          case rel =>
            refine ⟨k + 1, by omega, by go_num, ?_, B9.out⟩
            rw [FT2.out, List.length_append, strsC, List.map_append]
            exact O9.out
          case measure => simp [intOf]; omega
    · obtain rfl : k = L.length := by omega
      rw [List.take_length] at hO
      have HO := Lib.hid hO
      have HX := Lib.hid hb
      clear hO hb
      go_wp2
      go_ret
      exact ⟨_, rfl, own_lowT HO.out E1.out.size, E1.out.trans HX.out⟩
end Go.Proofs.YtmlfnidckfeebaaGreatDoor
namespace Go.Proofs.YtmlfnidckfeebaaGreatDoor
open Go.RowKit Go.Shelf
section
variable {P : Program} {ops : Array Oper}
theorem list_build {rest : List Oper} {o : Oper} {a : Act} {w : World} {Q : Exit → Act → World → Prop} (hg : o.guard = none) (t : TypeId) (parts : Array (Nat × Operand)) (ho : o.op = .build t parts) (cells : Array Value)
    (hb : P.built t (parts.map fun (i, x) => (i, a.eval x)).toList = some cells) (h : wpList P ops Q rest (a.put o.dst (.agg cells)) w) : wpList P ops Q (o :: rest) a w :=
  wpList_plain hg fun K hK => by
    unfold Oper.wp execOp
    simp only [ho, Sem.run_bind, run_build w t _ cells hb, Result.andThen_ok, Sem.run_pure]
    exact hK _ _ h
/-- For an arm of the walk's: this operation builds a struct. -/
theorem at_build {rest : List Oper} {o : Oper} {a : Act} {w : World} {Q : Exit → Act → World → Prop} {t : TypeId} {ps : Array (Nat × Operand)} (_ho : o.op = .build t ps) (h : wpList P ops Q (o :: rest) a w) : wpList P ops Q (o :: rest) a w := h
end
section
variable {P : Program} {ops : Array Oper} {T : World → Prop}
theorem floatT_load_mid {a : Act} {o : Oper} {K : Act → Prop} (hw : Region.wanted o (yielded ops a.tmps) = true) (ty : TypeId) (x : Operand) (ho : o.op = .load ty x) (b off : Nat) (hx : a.eval x = .pointer (some ⟨b, off, none⟩)) (vs : List Value) (d : TypeDesc)
    (hc : ∀ W, T W → W.rangeAt b off vs) (hu : P.underlying ty = some d) (hd : d.isRow = true) (hi : (P.info? ty).map (·.size) = some vs.length) (h : K (a.put o.dst (.agg vs.toArray))) : ∃ v, YieldsT P ops T o v a ∧ K (a.put o.dst v) := by
  refine ⟨_, .inl ⟨hw, fun W hS => ?_⟩, h⟩
  unfold execOp
  simp only [ho, hx, Sem.run_bind, run_loadAt_mid W b off ty vs d (hc W hS) hu hd hi, Result.andThen_ok, Sem.run_pure]
end
end Go.Proofs.YtmlfnidckfeebaaGreatDoor
namespace Go.Proofs.YtmlfnidckfeebaaGreatDoor
open Go.RowKit Go.Shelf
attribute [local go_sem] yUpon strOf_toList
/-- One part more of a struct that is built. -/
theorem fillv_step (place : Nat → Option (Nat × Nat)) (z : Array Value) (i : Nat) (v : Value) (r : List (Nat × Value)) (o : Nat) (hp : place i = some (o, v.cells.size)) (hz : o + v.cells.size ≤ z.size) :
    Instr.fill place z ((i, v) :: r) = Instr.fill place (putsA z o v.cells.toList) r := by
  conv => lhs; unfold Instr.fill
  rw [hp]
  simp only
  rw [if_neg (by simp; omega), fold_putsA']
theorem putsA_midv (a b b' c : List Value) (o : Nat) (ho : o = a.length) (h : b'.length = b.length) : putsA (a ++ b ++ c).toArray o b' = (a ++ b' ++ c).toArray := by
  subst ho
  apply Array.ext_getElem?
  intro m
  rw [putsA_get _ _ _ _ (by simp; omega)]
  simp only [List.getElem?_toArray]
  by_cases h1 : m < a.length
  · rw [if_neg (by omega), List.append_assoc, List.append_assoc, List.getElem?_append_left h1, List.getElem?_append_left h1]
  · by_cases h2 : m < a.length + b'.length
    · rw [if_pos ⟨by omega, h2⟩, List.append_assoc, List.getElem?_append_right (by omega), List.getElem?_append_left (by omega)]
    · rw [if_neg (by omega), List.getElem?_append_right (by simp; omega), List.getElem?_append_right (by simp; omega)]
      simp [h]
namespace Sp
abbrev Two := Bs × Bool × Bool × Bs × Bs
abbrev z32 : Bs := List.replicate 32 0
/-- What two nodes have, by their names, rising. -/
def kids2 : List Kid → List Kid → List Two
  | [], [] => []
  | x :: r, [] => (x.1, true, false, x.2, z32) :: kids2 r []
  | [], y :: s => (y.1, false, true, z32, y.2) :: kids2 [] s
  | x :: r, y :: s =>
    if Op.bytesLess x.1 y.1 = true then (x.1, true, false, x.2, z32) :: kids2 r (y :: s)
    else if Op.bytesLess y.1 x.1 = true then (y.1, false, true, z32, y.2) :: kids2 (x :: r) s
    else (x.1, true, true, x.2, y.2) :: kids2 r s
termination_by x y => x.length + y.length
def differ2 (k : Two) : Bool := !k.2.1 || (!k.2.2.1 || k.2.2.2.1 != k.2.2.2.2)
end Sp
def twoL (k : Sp.Two) : List Value := ([.string (strOf k.1)] ++ [.bool k.2.1] ++ [.bool k.2.2.1]) ++ (k.2.2.2.1.map byteV ++ k.2.2.2.2.map byteV)
def twosC : List Sp.Two → List Value
  | [] => []
  | k :: r => twoL k ++ twosC r
def TwoOk (k : Sp.Two) : Prop := k.2.2.2.1.length = 32 ∧ k.2.2.2.2.length = 32 ∧ k.1.length ≤ 1000000
def TwosOk (l : List Sp.Two) : Prop := ∀ k ∈ l, TwoOk k
theorem twoL_len (k : Sp.Two) (h : TwoOk k) : (twoL k).length = 67 := by simp [twoL, h.1, h.2.1]
theorem twosC_len : ∀ (l : List Sp.Two), TwosOk l → (twosC l).length = l.length * 67
  | [], _ => rfl
  | x :: r, h => by
    rw [twosC, List.length_append, twoL_len x (h x (List.mem_cons_self ..)), twosC_len r (fun y hy => h y (List.mem_cons_of_mem _ hy)), List.length_cons]
    omega
theorem twosC_append (l m : List Sp.Two) : twosC (l ++ m) = twosC l ++ twosC m := by
  induction l with
  | nil => rfl
  | cons x r ih => rw [List.cons_append, twosC, ih, twosC, List.append_assoc]
theorem twosC_get : ∀ (l : List Sp.Two) (k : Nat) (hk : k < l.length), TwosOk l → ∀ (j : Nat) (v : Value), (twoL l[k])[j]? = some v → (twosC l)[k * 67 + j]? = some v
  | x :: r, 0, _, h, j, v, hv => by
    rw [twosC, Nat.zero_mul, Nat.zero_add, List.getElem?_append_left]
    · exact hv
    · exact (List.getElem?_eq_some_iff.1 hv).1
  | x :: r, k + 1, hk, h, j, v, hv => by
    have e := twoL_len x (h x (List.mem_cons_self ..))
    rw [twosC, List.getElem?_append_right (by omega), e, show (k + 1) * 67 + j - 67 = k * 67 + j by omega]
    exact twosC_get r k (by simpa using hk) (fun y hy => h y (List.mem_cons_of_mem _ hy)) j v hv
theorem two_at {w : World} {A : Option Addr} {l : List Sp.Two} (h : Cells w A (twosC l)) (ok : TwosOk l) (hn : 0 < l.length) : ∃ g o, A = some ⟨g, o, none⟩ ∧ ∀ k (hk : k < l.length), w.rangeAt g (o + k * 67) (twoL l[k]) := by
  obtain ⟨g, o, hA, hc⟩ := h (by intro e; have := twosC_len l ok; rw [e] at this; simp at this; omega)
  exact ⟨g, o, hA, fun k hk j v hj => by rw [Nat.add_assoc]; exact hc _ _ (twosC_get l k hk ok j v hj)⟩
theorem twoL_one (k : Sp.Two) : ∀ u ∈ (twoL k).toArray.toList, u.oneCell' = true := by
  intro u hu
  rw [show (twoL k).toArray.toList = twoL k from rfl, twoL] at hu
  rcases List.mem_append.1 hu with h | h
  · simp at h; rcases h with rfl | rfl | rfl <;> rfl
  · rcases List.mem_append.1 h with h | h
    · obtain ⟨b, _, rfl⟩ := List.mem_map.1 h; rfl
    · obtain ⟨b, _, rfl⟩ := List.mem_map.1 h; rfl
theorem appTwo : AppStat Tryz.prog 260 263 67 88 := by
  refine ⟨Tryz.underlying260, by decide, by decide, ?_⟩
  obtain ⟨i0, hi, hz0, hz1, hz2⟩ := info_parts (show (Tryz.prog.info? 263).map (fun i => (i.zero, i.size, i.bytes)) = some (some (.agg ((([Value.string ⟨#[]⟩] ++ [Value.bool false] ++ [Value.bool false]) ++ (List.replicate 64 (Value.int .u8 0)) : List Value).toArray)), 67, 88) by kernel_rfl)
  exact ⟨i0, _, hi, hz0, hz1, hz2, by kernel_rfl⟩
def pl2 : Nat → Option (Nat × Nat) := fun i => (#[(0, 1), (1, 1), (2, 1), (3, 32), (35, 32)] : Array (Nat × Nat))[i]?
theorem fill2_0 (k : Sp.Two) (s : Sp.Bs) (h : TwoOk k) (r : List (Nat × Value)) : Instr.fill pl2 (twoL k).toArray ((0, .string (strOf s)) :: r) = Instr.fill pl2 (twoL (s, k.2)).toArray r := by
  have hl := twoL_len k h
  rw [fillv_step pl2 _ 0 _ r 0 rfl (by simp [show (Value.string (strOf s)).cells = #[.string (strOf s)] from rfl, hl])]
  congr 1
theorem fill2_1 (k : Sp.Two) (b : Bool) (h : TwoOk k) (r : List (Nat × Value)) : Instr.fill pl2 (twoL k).toArray ((1, .bool b) :: r) = Instr.fill pl2 (twoL (k.1, b, k.2.2)).toArray r := by
  have hl := twoL_len k h
  rw [fillv_step pl2 _ 1 _ r 1 rfl (by simp [show (Value.bool b).cells = #[.bool b] from rfl, hl])]
  congr 1
theorem fill2_2 (k : Sp.Two) (b : Bool) (h : TwoOk k) (r : List (Nat × Value)) : Instr.fill pl2 (twoL k).toArray ((2, .bool b) :: r) = Instr.fill pl2 (twoL (k.1, k.2.1, b, k.2.2.2)).toArray r := by
  have hl := twoL_len k h
  rw [fillv_step pl2 _ 2 _ r 2 rfl (by simp [show (Value.bool b).cells = #[.bool b] from rfl, hl])]
  congr 1
theorem fill2_3 (k : Sp.Two) (d : Sp.Bs) (hd : d.length = 32) (h : TwoOk k) (r : List (Nat × Value)) : Instr.fill pl2 (twoL k).toArray ((3, digV d) :: r) = Instr.fill pl2 (twoL (k.1, k.2.1, k.2.2.1, d, k.2.2.2.2)).toArray r := by
  have hl := twoL_len k h
  have hc : (digV d).cells = (d.map byteV).toArray := rfl
  have hs : (digV d).cells.size = 32 := by rw [hc]; simp [hd]
  rw [fillv_step pl2 _ 3 _ r 3 (by rw [hs]; rfl) (by rw [hs, List.size_toArray, hl]; decide), hc]
  congr 1
  have := putsA_midv ([.string (strOf k.1)] ++ [.bool k.2.1] ++ [.bool k.2.2.1]) (k.2.2.2.1.map byteV) (d.map byteV) (k.2.2.2.2.map byteV) 3 rfl (by simp [hd, h.1])
  simp only [twoL]
  rw [← List.append_assoc, this, ← List.append_assoc]
theorem fill2_4 (k : Sp.Two) (d : Sp.Bs) (hd : d.length = 32) (h : TwoOk k) (r : List (Nat × Value)) : Instr.fill pl2 (twoL k).toArray ((4, digV d) :: r) = Instr.fill pl2 (twoL (k.1, k.2.1, k.2.2.1, k.2.2.2.1, d)).toArray r := by
  have hl := twoL_len k h
  have hc : (digV d).cells = (d.map byteV).toArray := rfl
  have hs : (digV d).cells.size = 32 := by rw [hc]; simp [hd]
  rw [fillv_step pl2 _ 4 _ r 35 (by rw [hs]; rfl) (by rw [hs, List.size_toArray, hl]; decide), hc]
  congr 1
  have := putsA_midv (([.string (strOf k.1)] ++ [.bool k.2.1] ++ [.bool k.2.2.1]) ++ k.2.2.2.1.map byteV) (k.2.2.2.2.map byteV) (d.map byteV) [] 35 (by simp [h.1]) (by simp [hd, h.2.1])
  simp only [List.append_nil] at this
  simp only [twoL]
  rw [← List.append_assoc, this, ← List.append_assoc]
theorem built_two (parts : List (Nat × Value)) (h : (Tryz.prog).built 263 parts = Instr.fill pl2 (([Value.string ⟨#[]⟩] ++ [Value.bool false] ++ [Value.bool false]) ++ (List.replicate 64 (Value.int .u8 0)) : List Value).toArray parts) :
    (Tryz.prog).built 263 parts = Instr.fill pl2 (twoL (([] : Sp.Bs), false, false, Sp.z32, Sp.z32)).toArray parts := by
  rw [h]; rfl
theorem z32_len : Sp.z32.length = 32 := rfl
theorem two0_ok : TwoOk (([] : Sp.Bs), false, false, Sp.z32, Sp.z32) := ⟨by decide, by decide, by decide⟩
theorem built_x (k : Sp.Kid) (h : k.2.length = 32) (hn : k.1.length ≤ 1000000) : (Tryz.prog).built 263 [(0, .string (strOf k.1)), (1, .bool true), (3, digV k.2)] = some (twoL (k.1, true, false, k.2, Sp.z32)).toArray := by
  rw [built_two _ (by kernel_rfl), fill2_0 _ _ two0_ok, fill2_1 _ _ ⟨z32_len, z32_len, hn⟩, fill2_3 _ _ h ⟨z32_len, z32_len, hn⟩]
  rfl
theorem built_y (k : Sp.Kid) (h : k.2.length = 32) (hn : k.1.length ≤ 1000000) : (Tryz.prog).built 263 [(0, .string (strOf k.1)), (2, .bool true), (4, digV k.2)] = some (twoL (k.1, false, true, Sp.z32, k.2)).toArray := by
  rw [built_two _ (by kernel_rfl), fill2_0 _ _ two0_ok, fill2_2 _ _ ⟨z32_len, z32_len, hn⟩, fill2_4 _ _ h ⟨z32_len, z32_len, hn⟩]
  rfl
theorem built_xy (s x y : Sp.Bs) (h : x.length = 32) (h' : y.length = 32) (hn : s.length ≤ 1000000) : (Tryz.prog).built 263 [(0, .string (strOf s)), (1, .bool true), (2, .bool true), (3, digV x), (4, digV y)] = some (twoL (s, true, true, x, y)).toArray := by
  rw [built_two _ (by kernel_rfl), fill2_0 _ _ two0_ok, fill2_1 _ _ ⟨z32_len, z32_len, hn⟩, fill2_2 _ _ ⟨z32_len, z32_len, hn⟩, fill2_3 _ _ h ⟨z32_len, z32_len, hn⟩, fill2_4 _ _ h' ⟨h, z32_len, hn⟩]
  rfl
theorem kids2_ok : ∀ (x y : List Sp.Kid), KidsOk x → KidsOk y → TwosOk (Sp.kids2 x y) ∧ (Sp.kids2 x y).length ≤ x.length + y.length
  | [], [], _, _ => ⟨by rw [Sp.kids2]; intro k h; (cases h), by rw [Sp.kids2]; exact Nat.le_refl _⟩
  | x :: r, [], hx, hy => by
    obtain ⟨h1, h2⟩ := kids2_ok r [] (fun k h => hx k (List.mem_cons_of_mem _ h)) hy
    have h3 := hx x (List.mem_cons_self ..)
    rw [Sp.kids2]
    refine ⟨fun k h => ?_, by simp at h2 ⊢; omega⟩
    rcases List.mem_cons.1 h with rfl | h
    · exact ⟨h3.1, z32_len, h3.2⟩
    · exact h1 k h
  | [], y :: s, hx, hy => by
    obtain ⟨h1, h2⟩ := kids2_ok [] s hx (fun k h => hy k (List.mem_cons_of_mem _ h))
    have h3 := hy y (List.mem_cons_self ..)
    rw [Sp.kids2]
    refine ⟨fun k h => ?_, by simp at h2 ⊢; omega⟩
    rcases List.mem_cons.1 h with rfl | h
    · exact ⟨z32_len, h3.1, h3.2⟩
    · exact h1 k h
  | x :: r, y :: s, hx, hy => by
    have h3 := hx x (List.mem_cons_self ..)
    have h4 := hy y (List.mem_cons_self ..)
    rw [Sp.kids2]
    split
    · obtain ⟨h1, h2⟩ := kids2_ok r (y :: s) (fun k h => hx k (List.mem_cons_of_mem _ h)) hy
      refine ⟨fun k h => ?_, by simp at h2 ⊢; omega⟩
      rcases List.mem_cons.1 h with rfl | h
      · exact ⟨h3.1, z32_len, h3.2⟩
      · exact h1 k h
    · split
      · obtain ⟨h1, h2⟩ := kids2_ok (x :: r) s hx (fun k h => hy k (List.mem_cons_of_mem _ h))
        refine ⟨fun k h => ?_, by simp at h2 ⊢; omega⟩
        rcases List.mem_cons.1 h with rfl | h
        · exact ⟨z32_len, h4.1, h4.2⟩
        · exact h1 k h
      · obtain ⟨h1, h2⟩ := kids2_ok r s (fun k h => hx k (List.mem_cons_of_mem _ h)) (fun k h => hy k (List.mem_cons_of_mem _ h))
        refine ⟨fun k h => ?_, by simp at h2 ⊢; omega⟩
        rcases List.mem_cons.1 h with rfl | h
        · exact ⟨h3.1, h4.1, h3.2⟩
        · exact h1 k h
termination_by x y => x.length + y.length
end Go.Proofs.YtmlfnidckfeebaaGreatDoor
