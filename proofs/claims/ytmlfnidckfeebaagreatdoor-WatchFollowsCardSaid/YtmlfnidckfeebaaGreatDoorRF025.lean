/- Deltas: the names below two nodes, with what both have. Deltas: what is opened is told by a callback. -/
import Derived.Test.YtmlfnidckfeebaaGreatDoorRF023
namespace Go.Proofs.YtmlfnidckfeebaaGreatDoor
open Go.RowKit Go.Shelf
attribute [local go_sem] yUpon strOf_toList
theorem kids_tail {w : World} {g o c : Nat} {k : Sp.Kid} {r : List Sp.Kid} (h : Kids w (some ⟨g, o, none⟩) (k :: r)) (hc : r.length + 1 ≤ c) (A : Option Addr) (hA : c ≠ 1 → A = some ⟨g, o + 33, none⟩) : Kids w A r := by
  refine ⟨?_, fun x hx => h.2 x (List.mem_cons_of_mem _ hx)⟩
  cases r with
  | nil => exact Cells.nil _ _
  | cons y s =>
    have hc1 : c ≠ 1 := by simp at hc; omega
    have hk := (h.2 k (List.mem_cons_self ..)).1
    obtain ⟨g', o', e, hcs⟩ := h.1 (by simp [kidsC, kidL])
    cases e
    intro _
    refine ⟨g, o + 33, hA hc1, fun i u hu => ?_⟩
    rw [Nat.add_assoc]
    refine hcs (33 + i) u ?_
    rw [kidsC, List.getElem?_append_right (by rw [kidL_len k hk]; omega), kidL_len k hk, Nat.add_sub_cancel_left]
    exact hu
theorem kids_head {w : World} {A : Option Addr} {k : Sp.Kid} {r : List Sp.Kid} (h : Kids w A (k :: r)) : ∃ g o, A = some ⟨g, o, none⟩ ∧ w.cell? ⟨g, o, none⟩ = some (.string (strOf k.1)) ∧ w.rangeAt g (o + 1) (k.2.map byteV) := by
  obtain ⟨g, o, hA, hc⟩ := h.1 (by simp [kidsC, kidL])
  refine ⟨g, o, hA, ?_, fun i u hu => ?_⟩
  · exact hc 0 _ rfl
  · rw [Nat.add_assoc]
    refine hc (1 + i) u ?_
    rw [kidsC, kidL, List.cons_append, show 1 + i = i + 1 by omega, List.getElem?_cons_succ, List.getElem?_append_left (List.getElem?_eq_some_iff.1 hu).1]
    exact hu
def slLen : Value → Nat
  | .slice _ n _ => n
  | _ => 0
set_option maxRecDepth 100000 in
set_option maxHeartbeats 8000000 in
theorem kids2_calls (x y : List Sp.Kid) (A B : Option Addr) (c c' : Nat) (w : World) (hx : Kids w A x) (hy : Kids w B y) (cx : x.length ≤ c) (cy : y.length ≤ c') (lx : x.length ≤ 1000) (ly : y.length ≤ 1000) :
    Calls Tryz.prog 213 #[.slice A x.length c, .slice B y.length c'] w fun e w' => ∃ v, e = .returned v ∧ w'.ownsRow w.heap.size 263 67 v (Sp.kids2 x y).length (twosC (Sp.kids2 x y)) ∧ Ext w w' := by
  have HX := Lib.hid hx
  have HY := Lib.hid hy
  obtain ⟨res, hres⟩ : ∃ res, res = Sp.kids2 x y := ⟨_, rfl⟩
  rw [← hres]
  have HR := Lib.hid hres
  clear hx hy hres
  go_enter Tryz.func213, Tryz.ntmps213
  go_wp2
  go_loopw [0, 1, 5] (fun v0 v1 v5 wr => ∃ (x' y' : List Sp.Kid) (A' B' : Option Addr) (d d' : Nat) (out : List Sp.Two), v0 = .slice A' x'.length d ∧ v1 = .slice B' y'.length d' ∧ Kids w A' x' ∧ Kids w B' y' ∧ x'.length ≤ d ∧ y'.length ≤ d' ∧ x'.length ≤ 1000 ∧ y'.length ≤ 1000 ∧ wr.ownsRow w.heap.size 263 67 v5 out.length (twosC out) ∧ out.length + x'.length + y'.length ≤ 2000 ∧ out ++ Sp.kids2 x' y' = res ∧ Ext w wr) (fun v0 v1 _ _ => slLen v0 + slLen v1)
  case atStart => exact ⟨x, y, A, B, c, c', [], rfl, rfl, HX.out, HY.out, cx, cy, lx, ly, World.ownsRow_nil _ _ _ _, by simp; omega, HR.out.symm, Ext.refl _⟩
  case round =>
    clear HX HY HR cx cy lx ly
    obtain ⟨x', y', A', B', d, d', out, rfl, rfl, hx, hy, cx, cy, lx, ly, ho, hol, hr, hb⟩ := hrel
    have HO := Lib.hid ho
    have HB := Lib.hid hb
    clear ho hb
    cases x' with
    | nil =>
      cases y' with
      | nil =>
        rw [Sp.kids2, List.append_nil] at hr
        subst hr
        clear hx hy
        go_wp2
        go_ret
        exact ⟨_, rfl, HO.out, HB.out⟩
      | cons m s =>
        rw [Sp.kids2] at hr
        have HR := Lib.hid (show (out ++ [(m.1, false, true, Sp.z32, m.2)]) ++ Sp.kids2 [] s = res by rw [← hr, List.append_assoc]; rfl)
        obtain ⟨h, p, rfl, hc0, hd0⟩ := kids_head hy
        have C0 := Lib.hid (HB.out.cell hc0)
        have D0 := Lib.hid (show w.rangeAt h (p + 1) (m.2.map byteV) from hd0)
        have mk := hy.2 m (List.mem_cons_self ..)
        have KS := Lib.hid fun A2 e => kids_tail hy cy A2 e
        have BP := Lib.hid (built_y m mk.1 mk.2)
        have TWO := Lib.hid (show TwoOk (m.1, false, true, Sp.z32, m.2) from ⟨z32_len, mk.1, mk.2⟩)
        have DL := Lib.hid (show (m.2.map byteV).length = 32 by rw [List.length_map, mk.1])
        have DM := Lib.hid (show (m.2.map byteV).toArray = digC m.2 from rfl)
        have l1 : (m :: s).length = s.length + 1 := rfl
        have HXX := Lib.hid hx
        rw [l1] at cy ly hol ⊢
        have z0 : ((s.length + 1 : Nat) : Int) > 0 := by omega
        have z1 : (((s.length + 1 : Nat) : Int) == 0) = false := by rw [beq_eq_false_iff_ne]; omega
        clear hr hc0 hd0 hx hy l1 mk
        go_wp2_with fail
        refine wp_region_det (fun W => Ext wr W) (by kernel_rfl) (by kernel_rfl) (Below.refl _ _).drew ?_
        repeat (first
          | (refine det_step (fun K hK => ?_)
             apply Exists.intro
             refine ⟨Or.inl ⟨rfl, fun W hS => ?_⟩, ?_⟩
             · replace hS : Ext wr W := hS
               have f0 := hS.cell C0.out
               go_simp
               first
               | exact rfl
               | exact ⟨rfl, hS⟩
               | (fail)
             go_simp
             refine hK _ ?_
             clear hK K)
          | (refine det_step (fun K hK => ?_); refine det_no' rfl ?_; go_simp; refine hK _ ?_; clear hK K))
        refine det_nil ?_
        intro W9 hS
        replace hS : Ext _ W9 := hS
        go_wp2_with fail
        have S1 := Lib.hid hS
        clear hS
        obtain ⟨W1, hW1⟩ : ∃ W1, W1 = W9 := ⟨_, rfl⟩
        rw [← hW1] at S1 ⊢
        clear hW1
        refine wp_region_det (fun W => Ext W1 W) (by kernel_rfl) (by kernel_rfl) (Below.refl _ _).drew ?_
        repeat (first
          | (refine det_step (fun K hK => ?_)
             apply Exists.intro
             refine ⟨Or.inl ⟨rfl, fun W hS => ?_⟩, ?_⟩
             · replace hS : Ext W1 W := hS
               have f0 := (S1.out.trans hS).cell C0.out
               go_simp
               first
               | exact rfl
               | exact ⟨rfl, hS⟩
               | (fail)
             go_simp
             refine hK _ ?_
             clear hK K)
          | (refine det_step (fun K hK => ?_); refine det_no' rfl ?_; go_simp; refine hK _ ?_; clear hK K))
        refine det_nil ?_
        intro W9 hS
        replace hS : Ext _ W9 := hS
        go_wp2_with fail
        have S9 := Lib.hid (S1.out.trans hS)
        have E9 := Lib.hid (HB.out.trans S9.out)
        have O9 := Lib.hid (own_ext HO.out S9.out)
        clear hS
        obtain ⟨ka, hka⟩ : ∃ ka, ka = (twoL (m.1, false, true, Sp.z32, m.2)).toArray := ⟨_, rfl⟩
        have BP2 := Lib.hid (show (Tryz.prog).built 263 [(0, .string (strOf m.1)), (2, .bool true), (4, digV m.2)] = some ka by rw [hka]; exact BP.out)
        have KA := Lib.hid (show ka.size = 67 by rw [hka, List.size_toArray, twoL_len _ TWO.out])
        have KO := Lib.hid (show ∀ u ∈ ka.toList, u.oneCell' = true by rw [hka]; exact twoL_one _)
        have KT := Lib.hid (show twosC (out ++ [(m.1, false, true, Sp.z32, m.2)]) = twosC out ++ ka.toList by rw [hka, twosC_append, twosC, twosC, List.append_nil])
        clear hka
        refine wp_region_seqT (fun W => Ext W9 W) 9 11 (by kernel_rfl) (by kernel_rfl) (Ext.refl W9).drew ?_
        simp only [List.take_succ_cons, List.take_zero, List.drop_succ_cons, List.drop_zero]
        repeat (first
          | (refine floatT_step (fun K hK => ?_); (refine floatT_load_mid rfl 36 (.tmp 90) rfl h (p + 1) rfl (m.2.map byteV) _ (fun W hS j u hj => (E9.out.trans hS).cell (D0.out j u hj)) Tryz.underlying36 rfl (by rw [DL.out]; kernel_rfl) ?_; rw [DM.out]); go_simp; refine hK _ ?_; clear hK K)
          | (refine floatT_step (fun K hK => ?_)
             apply Exists.intro
             refine ⟨Or.inl ⟨rfl, fun W hS => ?_⟩, ?_⟩
             · have hz : Ext W9 W := hS; have f0 := (S9.out.trans hz).cell C0.out
               go_simp
               first | done | exact rfl
             go_simp
             refine hK _ ?_
             clear hK K))
        refine floatT_nil ?_
        refine seqT_succ (n := 1) (fun Q' hQ' => ?_)
        go_wp2_with ((with_reducible refine at_build rfl ?_); refine list_build rfl 263 #[(0, .tmp 87), (2, .const (.bool true)), (4, .tmp 91)] rfl ka (by first | exact BP2.out | (go_simp; exact BP2.out)) ?_)
        refine hQ' _ _ (Ext.refl W9).drew ?_
        clear hQ'
        refine seqT_succ (n := 0) (fun Q' hQ' => ?_)
        go_wp2_with ((with_reducible refine at_bslice rfl ?_); refine bslice_one rfl 260 263 _ rfl appTwo (by decide) ka rfl KA.out ?_)
        refine hQ' _ _ (Below.alloc (Ext.refl W9).drew (Ext.refl W9).drew.size _) ?_
        clear hQ'
        refine seqT_zero ?_
        have tokA : True := trivial
        go_wp2_with (have _t := tokA; at_builtin; refine app_new appTwo rfl _ _ rfl w.heap.size _ out.length _ rfl (own_ext O9.out (Ext.refl W9).drew) ka 263 1 rfl (by rw [KA.out]) KO.out (by decide) (by omega) (Nat.le_trans E9.out.size (Ext.refl W9).drew.size) ?_; intro g6 cap6 w10 hown10 hgr10 hb10 hbg10; have O10 := Lib.hid (show w10.ownsRow w.heap.size 263 67 (.slice (some ⟨g6, 0, none⟩) (out.length + 1) cap6) (out ++ [(m.1, false, true, Sp.z32, m.2)]).length (twosC (out ++ [(m.1, false, true, Sp.z32, m.2)])) from by rw [KT.out, List.length_append]; exact hown10); have B10 := Lib.hid (Below.trans E9.out.drew hb10); clear tokA _t hown10 hgr10 hb10 hbg10)
        refine ⟨rfl, ?_⟩
        go_wp2
        go_roundw
        case rel =>
          exact ⟨[], s, A', (if d' = 1 then some ⟨h, p, none⟩ else some ⟨h, p + 33, none⟩), d, d' - 1, _, rfl, rfl, HXX.out, KS.out _ (fun h => if_neg h), cx, by omega, lx, by omega, O10.out, by rw [List.length_append, List.length_singleton]; simp at hol ⊢; omega, HR.out, B10.out⟩
        case measure => simp [slLen]
    | cons k r =>
      obtain ⟨g, o, rfl, hc0, hd0⟩ := kids_head hx
      have CX := Lib.hid (HB.out.cell hc0)
      have DX := Lib.hid (show w.rangeAt g (o + 1) (k.2.map byteV) from hd0)
      have xk := hx.2 k (List.mem_cons_self ..)
      have KX := Lib.hid fun A2 e => kids_tail hx cx A2 e
      have XL := Lib.hid (show (k.2.map byteV).length = 32 by rw [List.length_map, xk.1])
      have XM := Lib.hid (show (k.2.map byteV).toArray = digC k.2 from rfl)
      have l1 : (k :: r).length = r.length + 1 := rfl
      have HXX := Lib.hid hx
      rw [l1] at cx lx hol ⊢
      have z0 : ((r.length + 1 : Nat) : Int) > 0 := by omega
      have z1 : (((r.length + 1 : Nat) : Int) == 0) = false := by rw [beq_eq_false_iff_ne]; omega
      clear hc0 hd0 hx l1
      cases y' with
      | nil =>
        rw [Sp.kids2] at hr
        have HR := Lib.hid (show (out ++ [(k.1, true, false, k.2, Sp.z32)]) ++ Sp.kids2 r [] = res by rw [← hr, List.append_assoc]; rfl)
        have HYY := Lib.hid hy
        have BP := Lib.hid (built_x k xk.1 xk.2)
        have TWO := Lib.hid (show TwoOk (k.1, true, false, k.2, Sp.z32) from ⟨xk.1, z32_len, xk.2⟩)
        clear hr hy xk
        go_wp2_with fail
        refine wp_region_det (fun W => Ext wr W) (by kernel_rfl) (by kernel_rfl) (Below.refl _ _).drew ?_
        repeat (first
          | (refine det_step (fun K hK => ?_)
             apply Exists.intro
             refine ⟨Or.inl ⟨rfl, fun W hS => ?_⟩, ?_⟩
             · replace hS : Ext wr W := hS
               have f0 := hS.cell CX.out
               go_simp
               first
               | exact rfl
               | exact ⟨rfl, hS⟩
               | (fail)
             go_simp
             refine hK _ ?_
             clear hK K)
          | (refine det_step (fun K hK => ?_); refine det_no' rfl ?_; go_simp; refine hK _ ?_; clear hK K))
        refine det_nil ?_
        intro W9 hS
        replace hS : Ext _ W9 := hS
        go_wp2_with fail
        have S9 := Lib.hid hS
        have E9 := Lib.hid (HB.out.trans hS)
        have O9 := Lib.hid (own_ext HO.out hS)
        clear hS
        obtain ⟨ka, hka⟩ : ∃ ka, ka = (twoL (k.1, true, false, k.2, Sp.z32)).toArray := ⟨_, rfl⟩
        have BP2 := Lib.hid (show (Tryz.prog).built 263 [(0, .string (strOf k.1)), (1, .bool true), (3, digV k.2)] = some ka by rw [hka]; exact BP.out)
        have KA := Lib.hid (show ka.size = 67 by rw [hka, List.size_toArray, twoL_len _ TWO.out])
        have KO := Lib.hid (show ∀ u ∈ ka.toList, u.oneCell' = true by rw [hka]; exact twoL_one _)
        have KT := Lib.hid (show twosC (out ++ [(k.1, true, false, k.2, Sp.z32)]) = twosC out ++ ka.toList by rw [hka, twosC_append, twosC, twosC, List.append_nil])
        clear hka
        refine wp_region_seqT (fun W => Ext W9 W) 9 11 (by kernel_rfl) (by kernel_rfl) (Ext.refl W9).drew ?_
        simp only [List.take_succ_cons, List.take_zero, List.drop_succ_cons, List.drop_zero]
        repeat (first
          | (refine floatT_step (fun K hK => ?_); (refine floatT_load_mid rfl 36 (.tmp 61) rfl g (o + 1) rfl (k.2.map byteV) _ (fun W hS j u hj => (E9.out.trans hS).cell (DX.out j u hj)) Tryz.underlying36 rfl (by rw [XL.out]; kernel_rfl) ?_; rw [XM.out]); go_simp; refine hK _ ?_; clear hK K)
          | (refine floatT_step (fun K hK => ?_)
             apply Exists.intro
             refine ⟨Or.inl ⟨rfl, fun W hS => ?_⟩, ?_⟩
             · have hz : Ext W9 W := hS; have f0 := (S9.out.trans hz).cell CX.out
               go_simp
               first | done | exact rfl
             go_simp
             refine hK _ ?_
             clear hK K))
        refine floatT_nil ?_
        refine seqT_succ (n := 1) (fun Q' hQ' => ?_)
        go_wp2_with ((with_reducible refine at_build rfl ?_); refine list_build rfl 263 #[(0, .tmp 58), (1, .const (.bool true)), (3, .tmp 62)] rfl ka (by first | exact BP2.out | (go_simp; exact BP2.out)) ?_)
        refine hQ' _ _ (Ext.refl W9).drew ?_
        clear hQ'
        refine seqT_succ (n := 0) (fun Q' hQ' => ?_)
        go_wp2_with ((with_reducible refine at_bslice rfl ?_); refine bslice_one rfl 260 263 _ rfl appTwo (by decide) ka rfl KA.out ?_)
        refine hQ' _ _ (Below.alloc (Ext.refl W9).drew (Ext.refl W9).drew.size _) ?_
        clear hQ'
        refine seqT_zero ?_
        have tokA : True := trivial
        go_wp2_with (have _t := tokA; at_builtin; refine app_new appTwo rfl _ _ rfl w.heap.size _ out.length _ rfl (own_ext O9.out (Ext.refl W9).drew) ka 263 1 rfl (by rw [KA.out]) KO.out (by decide) (by omega) (Nat.le_trans E9.out.size (Ext.refl W9).drew.size) ?_; intro g6 cap6 w10 hown10 hgr10 hb10 hbg10; have O10 := Lib.hid (show w10.ownsRow w.heap.size 263 67 (.slice (some ⟨g6, 0, none⟩) (out.length + 1) cap6) (out ++ [(k.1, true, false, k.2, Sp.z32)]).length (twosC (out ++ [(k.1, true, false, k.2, Sp.z32)])) from by rw [KT.out, List.length_append]; exact hown10); have B10 := Lib.hid (Below.trans E9.out.drew hb10); clear tokA _t hown10 hgr10 hb10 hbg10)
        refine ⟨rfl, ?_⟩
        go_wp2
        go_roundw
        case rel =>
          exact ⟨r, [], (if d = 1 then some ⟨g, o, none⟩ else some ⟨g, o + 33, none⟩), B', d - 1, d', _, rfl, rfl, KX.out _ (fun h => if_neg h), HYY.out, by omega, cy, by omega, ly, O10.out, by rw [List.length_append, List.length_singleton]; simp at hol ⊢; omega, HR.out, B10.out⟩
        case measure => simp [slLen]
      | cons m s =>
        obtain ⟨h, p, rfl, hc0, hd0⟩ := kids_head hy
        have CY := Lib.hid (HB.out.cell hc0)
        have DY := Lib.hid (show w.rangeAt h (p + 1) (m.2.map byteV) from hd0)
        have yk := hy.2 m (List.mem_cons_self ..)
        have KY := Lib.hid fun A2 e => kids_tail hy cy A2 e
        have YL := Lib.hid (show (m.2.map byteV).length = 32 by rw [List.length_map, yk.1])
        have YM := Lib.hid (show (m.2.map byteV).toArray = digC m.2 from rfl)
        have l1 : (m :: s).length = s.length + 1 := rfl
        have HYY := Lib.hid hy
        rw [l1] at cy ly hol ⊢
        have z2 : ((s.length + 1 : Nat) : Int) > 0 := by omega
        have z3 : (((s.length + 1 : Nat) : Int) == 0) = false := by rw [beq_eq_false_iff_ne]; omega
        rw [Sp.kids2] at hr
        clear hc0 hd0 hy l1
        cases q1 : Op.bytesLess k.1 m.1 with
        | true =>
          rw [if_pos q1] at hr
          have HR := Lib.hid (show (out ++ [(k.1, true, false, k.2, Sp.z32)]) ++ Sp.kids2 r (m :: s) = res by rw [← hr, List.append_assoc]; rfl)
          have BP := Lib.hid (built_x k xk.1 xk.2)
          have TWO := Lib.hid (show TwoOk (k.1, true, false, k.2, Sp.z32) from ⟨xk.1, z32_len, xk.2⟩)
          clear hr xk yk
          go_wp2_with fail
          refine wp_region_det (fun W => Ext wr W) (by kernel_rfl) (by kernel_rfl) (Below.refl _ _).drew ?_
          repeat (first
            | (refine det_step (fun K hK => ?_)
               apply Exists.intro
               refine ⟨Or.inl ⟨rfl, fun W hS => ?_⟩, ?_⟩
               · replace hS : Ext wr W := hS
                 have f0 := hS.cell CX.out; have f1 := hS.cell CY.out
                 go_simp
                 first
                 | exact rfl
                 | exact ⟨rfl, hS⟩
                 | (fail)
               go_simp
               refine hK _ ?_
               clear hK K)
            | (refine det_step (fun K hK => ?_); refine det_no' rfl ?_; go_simp; refine hK _ ?_; clear hK K))
          refine det_nil ?_
          intro W9 hS
          replace hS : Ext _ W9 := hS
          go_wp2_with fail
          have S9 := Lib.hid hS
          have E9 := Lib.hid (HB.out.trans hS)
          have O9 := Lib.hid (own_ext HO.out hS)
          clear hS
          obtain ⟨ka, hka⟩ : ∃ ka, ka = (twoL (k.1, true, false, k.2, Sp.z32)).toArray := ⟨_, rfl⟩
          have BP2 := Lib.hid (show (Tryz.prog).built 263 [(0, .string (strOf k.1)), (1, .bool true), (3, digV k.2)] = some ka by rw [hka]; exact BP.out)
          have KA := Lib.hid (show ka.size = 67 by rw [hka, List.size_toArray, twoL_len _ TWO.out])
          have KO := Lib.hid (show ∀ u ∈ ka.toList, u.oneCell' = true by rw [hka]; exact twoL_one _)
          have KT := Lib.hid (show twosC (out ++ [(k.1, true, false, k.2, Sp.z32)]) = twosC out ++ ka.toList by rw [hka, twosC_append, twosC, twosC, List.append_nil])
          clear hka
          refine wp_region_seqT (fun W => Ext W9 W) 9 11 (by kernel_rfl) (by kernel_rfl) (Ext.refl W9).drew ?_
          simp only [List.take_succ_cons, List.take_zero, List.drop_succ_cons, List.drop_zero]
          repeat (first
            | (refine floatT_step (fun K hK => ?_); (refine floatT_load_mid rfl 36 (.tmp 61) rfl g (o + 1) rfl (k.2.map byteV) _ (fun W hS j u hj => (E9.out.trans hS).cell (DX.out j u hj)) Tryz.underlying36 rfl (by rw [XL.out]; kernel_rfl) ?_; rw [XM.out]); go_simp; refine hK _ ?_; clear hK K)
            | (refine floatT_step (fun K hK => ?_)
               apply Exists.intro
               refine ⟨Or.inl ⟨rfl, fun W hS => ?_⟩, ?_⟩
               · have hz : Ext W9 W := hS; have f0 := (S9.out.trans hz).cell CX.out
                 go_simp
                 first | done | exact rfl
               go_simp
               refine hK _ ?_
               clear hK K))
          refine floatT_nil ?_
          refine seqT_succ (n := 1) (fun Q' hQ' => ?_)
          go_wp2_with ((with_reducible refine at_build rfl ?_); refine list_build rfl 263 #[(0, .tmp 58), (1, .const (.bool true)), (3, .tmp 62)] rfl ka (by first | exact BP2.out | (go_simp; exact BP2.out)) ?_)
          refine hQ' _ _ (Ext.refl W9).drew ?_
          clear hQ'
          refine seqT_succ (n := 0) (fun Q' hQ' => ?_)
          go_wp2_with ((with_reducible refine at_bslice rfl ?_); refine bslice_one rfl 260 263 _ rfl appTwo (by decide) ka rfl KA.out ?_)
          refine hQ' _ _ (Below.alloc (Ext.refl W9).drew (Ext.refl W9).drew.size _) ?_
          clear hQ'
          refine seqT_zero ?_
          have tokA : True := trivial
          go_wp2_with (have _t := tokA; at_builtin; refine app_new appTwo rfl _ _ rfl w.heap.size _ out.length _ rfl (own_ext O9.out (Ext.refl W9).drew) ka 263 1 rfl (by rw [KA.out]) KO.out (by decide) (by omega) (Nat.le_trans E9.out.size (Ext.refl W9).drew.size) ?_; intro g6 cap6 w10 hown10 hgr10 hb10 hbg10; have O10 := Lib.hid (show w10.ownsRow w.heap.size 263 67 (.slice (some ⟨g6, 0, none⟩) (out.length + 1) cap6) (out ++ [(k.1, true, false, k.2, Sp.z32)]).length (twosC (out ++ [(k.1, true, false, k.2, Sp.z32)])) from by rw [KT.out, List.length_append]; exact hown10); have B10 := Lib.hid (Below.trans E9.out.drew hb10); clear tokA _t hown10 hgr10 hb10 hbg10)
          refine ⟨rfl, ?_⟩
          go_wp2
          go_roundw
          case rel =>
            exact ⟨r, m :: s, (if d = 1 then some ⟨g, o, none⟩ else some ⟨g, o + 33, none⟩), some ⟨h, p, none⟩, d - 1, d', _, rfl, rfl, KX.out _ (fun h => if_neg h), HYY.out, by omega, cy, by omega, ly, O10.out, by rw [List.length_append, List.length_singleton, List.length_cons]; omega, HR.out, B10.out⟩
          case measure => simp [slLen]
        | false =>
          rw [if_neg (by rw [q1]; decide)] at hr
          cases q2 : Op.bytesLess m.1 k.1 with
          | true =>
            rw [if_pos q2] at hr
            have HR := Lib.hid (show (out ++ [(m.1, false, true, Sp.z32, m.2)]) ++ Sp.kids2 (k :: r) s = res by rw [← hr, List.append_assoc]; rfl)
            have BP := Lib.hid (built_y m yk.1 yk.2)
            have TWO := Lib.hid (show TwoOk (m.1, false, true, Sp.z32, m.2) from ⟨z32_len, yk.1, yk.2⟩)
            clear hr xk yk
            go_wp2_with fail
            refine wp_region_det (fun W => Ext wr W) (by kernel_rfl) (by kernel_rfl) (Below.refl _ _).drew ?_
            repeat (first
              | (refine det_step (fun K hK => ?_)
                 apply Exists.intro
                 refine ⟨Or.inl ⟨rfl, fun W hS => ?_⟩, ?_⟩
                 · replace hS : Ext wr W := hS
                   have f0 := hS.cell CX.out; have f1 := hS.cell CY.out
                   go_simp
                   first
                   | exact rfl
                   | exact ⟨rfl, hS⟩
                   | (fail)
                 go_simp
                 refine hK _ ?_
                 clear hK K)
              | (refine det_step (fun K hK => ?_); refine det_no' rfl ?_; go_simp; refine hK _ ?_; clear hK K))
            refine det_nil ?_
            intro W9 hS
            replace hS : Ext _ W9 := hS
            go_wp2_with fail
            have S1 := Lib.hid hS
            clear hS
            obtain ⟨W1, hW1⟩ : ∃ W1, W1 = W9 := ⟨_, rfl⟩
            rw [← hW1] at S1 ⊢
            clear hW1
            refine wp_region_det (fun W => Ext W1 W) (by kernel_rfl) (by kernel_rfl) (Below.refl _ _).drew ?_
            repeat (first
              | (refine det_step (fun K hK => ?_)
                 apply Exists.intro
                 refine ⟨Or.inl ⟨rfl, fun W hS => ?_⟩, ?_⟩
                 · replace hS : Ext W1 W := hS
                   have f0 := (S1.out.trans hS).cell CX.out; have f1 := (S1.out.trans hS).cell CY.out
                   go_simp
                   first
                   | exact rfl
                   | exact ⟨rfl, hS⟩
                   | (fail)
                 go_simp
                 refine hK _ ?_
                 clear hK K)
              | (refine det_step (fun K hK => ?_); refine det_no' rfl ?_; go_simp; refine hK _ ?_; clear hK K))
            refine det_nil ?_
            intro W9 hS
            replace hS : Ext _ W9 := hS
            go_wp2_with fail
            have S9 := Lib.hid (S1.out.trans hS)
            have E9 := Lib.hid (HB.out.trans S9.out)
            have O9 := Lib.hid (own_ext HO.out S9.out)
            clear hS
            obtain ⟨ka, hka⟩ : ∃ ka, ka = (twoL (m.1, false, true, Sp.z32, m.2)).toArray := ⟨_, rfl⟩
            have BP2 := Lib.hid (show (Tryz.prog).built 263 [(0, .string (strOf m.1)), (2, .bool true), (4, digV m.2)] = some ka by rw [hka]; exact BP.out)
            have KA := Lib.hid (show ka.size = 67 by rw [hka, List.size_toArray, twoL_len _ TWO.out])
            have KO := Lib.hid (show ∀ u ∈ ka.toList, u.oneCell' = true by rw [hka]; exact twoL_one _)
            have KT := Lib.hid (show twosC (out ++ [(m.1, false, true, Sp.z32, m.2)]) = twosC out ++ ka.toList by rw [hka, twosC_append, twosC, twosC, List.append_nil])
            clear hka
            refine wp_region_seqT (fun W => Ext W9 W) 9 11 (by kernel_rfl) (by kernel_rfl) (Ext.refl W9).drew ?_
            simp only [List.take_succ_cons, List.take_zero, List.drop_succ_cons, List.drop_zero]
            repeat (first
              | (refine floatT_step (fun K hK => ?_); (refine floatT_load_mid rfl 36 (.tmp 90) rfl h (p + 1) rfl (m.2.map byteV) _ (fun W hS j u hj => (E9.out.trans hS).cell (DY.out j u hj)) Tryz.underlying36 rfl (by rw [YL.out]; kernel_rfl) ?_; rw [YM.out]); go_simp; refine hK _ ?_; clear hK K)
              | (refine floatT_step (fun K hK => ?_)
                 apply Exists.intro
                 refine ⟨Or.inl ⟨rfl, fun W hS => ?_⟩, ?_⟩
                 · have hz : Ext W9 W := hS; have f0 := (S9.out.trans hz).cell CY.out
                   go_simp
                   first | done | exact rfl
                 go_simp
                 refine hK _ ?_
                 clear hK K))
            refine floatT_nil ?_
            refine seqT_succ (n := 1) (fun Q' hQ' => ?_)
            go_wp2_with ((with_reducible refine at_build rfl ?_); refine list_build rfl 263 #[(0, .tmp 87), (2, .const (.bool true)), (4, .tmp 91)] rfl ka (by first | exact BP2.out | (go_simp; exact BP2.out)) ?_)
            refine hQ' _ _ (Ext.refl W9).drew ?_
            clear hQ'
            refine seqT_succ (n := 0) (fun Q' hQ' => ?_)
            go_wp2_with ((with_reducible refine at_bslice rfl ?_); refine bslice_one rfl 260 263 _ rfl appTwo (by decide) ka rfl KA.out ?_)
            refine hQ' _ _ (Below.alloc (Ext.refl W9).drew (Ext.refl W9).drew.size _) ?_
            clear hQ'
            refine seqT_zero ?_
            have tokA : True := trivial
            go_wp2_with (have _t := tokA; at_builtin; refine app_new appTwo rfl _ _ rfl w.heap.size _ out.length _ rfl (own_ext O9.out (Ext.refl W9).drew) ka 263 1 rfl (by rw [KA.out]) KO.out (by decide) (by omega) (Nat.le_trans E9.out.size (Ext.refl W9).drew.size) ?_; intro g6 cap6 w10 hown10 hgr10 hb10 hbg10; have O10 := Lib.hid (show w10.ownsRow w.heap.size 263 67 (.slice (some ⟨g6, 0, none⟩) (out.length + 1) cap6) (out ++ [(m.1, false, true, Sp.z32, m.2)]).length (twosC (out ++ [(m.1, false, true, Sp.z32, m.2)])) from by rw [KT.out, List.length_append]; exact hown10); have B10 := Lib.hid (Below.trans E9.out.drew hb10); clear tokA _t hown10 hgr10 hb10 hbg10)
            refine ⟨rfl, ?_⟩
            go_wp2
            go_roundw
            case rel =>
              exact ⟨k :: r, s, some ⟨g, o, none⟩, (if d' = 1 then some ⟨h, p, none⟩ else some ⟨h, p + 33, none⟩), d, d' - 1, _, rfl, rfl, HXX.out, KY.out _ (fun h => if_neg h), cx, by omega, lx, by omega, O10.out, by rw [List.length_append, List.length_singleton, List.length_cons]; omega, HR.out, B10.out⟩
            case measure => simp [slLen]
          | false =>
            rw [if_neg (by rw [q2]; decide)] at hr
            have HR := Lib.hid (show (out ++ [(k.1, true, true, k.2, m.2)]) ++ Sp.kids2 r s = res by rw [← hr, List.append_assoc]; rfl)
            have BP := Lib.hid (built_xy k.1 k.2 m.2 xk.1 yk.1 xk.2)
            have TWO := Lib.hid (show TwoOk (k.1, true, true, k.2, m.2) from ⟨xk.1, yk.1, xk.2⟩)
            clear hr xk yk
            go_wp2_with fail
            refine wp_region_det (fun W => Ext wr W) (by kernel_rfl) (by kernel_rfl) (Below.refl _ _).drew ?_
            repeat (first
              | (refine det_step (fun K hK => ?_)
                 apply Exists.intro
                 refine ⟨Or.inl ⟨rfl, fun W hS => ?_⟩, ?_⟩
                 · replace hS : Ext wr W := hS
                   have f0 := hS.cell CX.out; have f1 := hS.cell CY.out
                   go_simp
                   first
                   | exact rfl
                   | exact ⟨rfl, hS⟩
                   | (fail)
                 go_simp
                 refine hK _ ?_
                 clear hK K)
              | (refine det_step (fun K hK => ?_); refine det_no' rfl ?_; go_simp; refine hK _ ?_; clear hK K))
            refine det_nil ?_
            intro W9 hS
            replace hS : Ext _ W9 := hS
            go_wp2_with fail
            have S1 := Lib.hid hS
            clear hS
            obtain ⟨W1, hW1⟩ : ∃ W1, W1 = W9 := ⟨_, rfl⟩
            rw [← hW1] at S1 ⊢
            clear hW1
            refine wp_region_det (fun W => Ext W1 W) (by kernel_rfl) (by kernel_rfl) (Below.refl _ _).drew ?_
            repeat (first
              | (refine det_step (fun K hK => ?_)
                 apply Exists.intro
                 refine ⟨Or.inl ⟨rfl, fun W hS => ?_⟩, ?_⟩
                 · replace hS : Ext W1 W := hS
                   have f0 := (S1.out.trans hS).cell CX.out; have f1 := (S1.out.trans hS).cell CY.out
                   go_simp
                   first
                   | exact rfl
                   | exact ⟨rfl, hS⟩
                   | (fail)
                 go_simp
                 refine hK _ ?_
                 clear hK K)
              | (refine det_step (fun K hK => ?_); refine det_no' rfl ?_; go_simp; refine hK _ ?_; clear hK K))
            refine det_nil ?_
            intro W9 hS
            replace hS : Ext _ W9 := hS
            go_wp2_with fail
            have S9 := Lib.hid (S1.out.trans hS)
            have E9 := Lib.hid (HB.out.trans S9.out)
            have O9 := Lib.hid (own_ext HO.out S9.out)
            clear hS
            obtain ⟨ka, hka⟩ : ∃ ka, ka = (twoL (k.1, true, true, k.2, m.2)).toArray := ⟨_, rfl⟩
            have BP2 := Lib.hid (show (Tryz.prog).built 263 [(0, .string (strOf k.1)), (1, .bool true), (2, .bool true), (3, digV k.2), (4, digV m.2)] = some ka by rw [hka]; exact BP.out)
            have KA := Lib.hid (show ka.size = 67 by rw [hka, List.size_toArray, twoL_len _ TWO.out])
            have KO := Lib.hid (show ∀ u ∈ ka.toList, u.oneCell' = true by rw [hka]; exact twoL_one _)
            have KT := Lib.hid (show twosC (out ++ [(k.1, true, true, k.2, m.2)]) = twosC out ++ ka.toList by rw [hka, twosC_append, twosC, twosC, List.append_nil])
            clear hka
            refine wp_region_seqT (fun W => Ext W9 W) 13 15 (by kernel_rfl) (by kernel_rfl) (Ext.refl W9).drew ?_
            simp only [List.take_succ_cons, List.take_zero, List.drop_succ_cons, List.drop_zero]
            repeat (first
              | (refine floatT_step (fun K hK => ?_); (first | (refine floatT_load_mid rfl 36 (.tmp 21) rfl g (o + 1) rfl (k.2.map byteV) _ (fun W hS j u hj => (E9.out.trans hS).cell (DX.out j u hj)) Tryz.underlying36 rfl (by rw [XL.out]; kernel_rfl) ?_; rw [XM.out]) | (refine floatT_load_mid rfl 36 (.tmp 25) rfl h (p + 1) rfl (m.2.map byteV) _ (fun W hS j u hj => (E9.out.trans hS).cell (DY.out j u hj)) Tryz.underlying36 rfl (by rw [YL.out]; kernel_rfl) ?_; rw [YM.out])); go_simp; refine hK _ ?_; clear hK K)
              | (refine floatT_step (fun K hK => ?_)
                 apply Exists.intro
                 refine ⟨Or.inl ⟨rfl, fun W hS => ?_⟩, ?_⟩
                 · have hz : Ext W9 W := hS; have f0 := (S9.out.trans hz).cell CX.out
                   go_simp
                   first | done | exact rfl
                 go_simp
                 refine hK _ ?_
                 clear hK K))
            refine floatT_nil ?_
            refine seqT_succ (n := 1) (fun Q' hQ' => ?_)
            go_wp2_with ((with_reducible refine at_build rfl ?_); refine list_build rfl 263 #[(0, .tmp 18), (1, .const (.bool true)), (2, .const (.bool true)), (3, .tmp 22), (4, .tmp 26)] rfl ka (by first | exact BP2.out | (go_simp; exact BP2.out)) ?_)
            refine hQ' _ _ (Ext.refl W9).drew ?_
            clear hQ'
            refine seqT_succ (n := 0) (fun Q' hQ' => ?_)
            go_wp2_with ((with_reducible refine at_bslice rfl ?_); refine bslice_one rfl 260 263 _ rfl appTwo (by decide) ka rfl KA.out ?_)
            refine hQ' _ _ (Below.alloc (Ext.refl W9).drew (Ext.refl W9).drew.size _) ?_
            clear hQ'
            refine seqT_zero ?_
            have tokA : True := trivial
            go_wp2_with (have _t := tokA; at_builtin; refine app_new appTwo rfl _ _ rfl w.heap.size _ out.length _ rfl (own_ext O9.out (Ext.refl W9).drew) ka 263 1 rfl (by rw [KA.out]) KO.out (by decide) (by omega) (Nat.le_trans E9.out.size (Ext.refl W9).drew.size) ?_; intro g6 cap6 w10 hown10 hgr10 hb10 hbg10; have O10 := Lib.hid (show w10.ownsRow w.heap.size 263 67 (.slice (some ⟨g6, 0, none⟩) (out.length + 1) cap6) (out ++ [(k.1, true, true, k.2, m.2)]).length (twosC (out ++ [(k.1, true, true, k.2, m.2)])) from by rw [KT.out, List.length_append]; exact hown10); have B10 := Lib.hid (Below.trans E9.out.drew hb10); clear tokA _t hown10 hgr10 hb10 hbg10)
            refine ⟨rfl, ?_⟩
            go_wp2_with fail
            have b1 : (1 : Int) ≤ (r.length : Int) + 1 := by omega
            have b2 : (1 : Int) ≤ (s.length : Int) + 1 := by omega
            refine wp_region_det (fun W => Ext w10 W) (by kernel_rfl) (by kernel_rfl) (Below.refl _ _).drew ?_
            repeat (first
              | (refine det_step (fun K hK => ?_)
                 apply Exists.intro
                 refine ⟨Or.inl ⟨rfl, fun W hS => ?_⟩, ?_⟩
                 · replace hS : Ext w10 W := hS
                   skip
                   go_simp
                   first
                   | exact rfl
                   | exact ⟨rfl, hS⟩
                   | (fail)
                 go_simp
                 refine hK _ ?_
                 clear hK K)
              | (refine det_step (fun K hK => ?_); refine det_no' rfl ?_; go_simp; refine hK _ ?_; clear hK K))
            refine det_nil ?_
            intro W9 hS
            replace hS : Ext _ W9 := hS
            go_wp2
            go_roundw
            case rel =>
              exact ⟨r, s, (if d = 1 then some ⟨g, o, none⟩ else some ⟨g, o + 33, none⟩), (if d' = 1 then some ⟨h, p, none⟩ else some ⟨h, p + 33, none⟩), d - 1, d' - 1, _, rfl, rfl, KX.out _ (fun h => if_neg h), KY.out _ (fun h => if_neg h), by omega, by omega, by omega, by omega, own_ext O10.out hS, by rw [List.length_append, List.length_singleton]; omega, HR.out, Ext.trans B10.out hS⟩
            case measure => simp [slLen]; omega
abbrev outT : TypeId → Prop := fun t => t = 9 ∨ t = 32
def OutVar (B gb : Nat) (L : List Sp.Bs) (W : World) : Prop := B ≤ gb ∧ ∃ v, isBlk W gb 32 #[v] ∧ W.ownsRow B 9 1 v L.length (strsC L)
theorem OutVar.keep {B gb b : Nat} {L : List Sp.Bs} {W W' : World} (h : OutVar B gb L W) (k : KB noT b W W') : OutVar B gb L W' := by
  obtain ⟨h1, v, h2, h3⟩ := h
  exact ⟨h1, v, k.row _ _ _ _ h2 (fun h => h), own_keep (T := noT) (fun h => h) h3 k⟩
theorem told_apart {W : World} {B gb n size : Nat} {t e : TypeId} {cs : Array Value} {v : Value} {xs : List Value} (h1 : isBlk W gb t cs) (h2 : W.ownsRow B e size v n xs) (hne : t ≠ e) : v.ownBlock ≠ some gb := by
  intro hv
  rcases h2.2 with ⟨rfl, _⟩ | ⟨g, cap, cur, rfl, _, hh, _⟩
  · cases hv
  · obtain rfl : g = gb := Option.some.inj hv
    rw [isBlk, hh] at h1
    cases h1
    exact hne rfl
theorem blk_grown {W W' : World} {gb : Nat} {t : TypeId} {cs : Array Value} {own : Option Nat} (h : isBlk W gb t cs) (hg : W.grownBy W' own) (hne : own ≠ some gb) : isBlk W' gb t cs := (hg.block gb h.lt (fun e => hne e.symm)).trans h
set_option maxRecDepth 100000 in
set_option maxHeartbeats 4000000 in
theorem told_diff (B gb : Nat) (L : List Sp.Bs) (d : Sp.Bs) (x y : List Sp.Ver) (A A2 C C2 : Option Addr) (c m c' c2 m2 c2' : Nat) (W : World) (hJ : OutVar B gb L W) (hB : B ≤ W.heap.size) (hL : L.length ≤ 1121154893057) (hx : Vers W A x) (hy : Vers W A2 y) (hl : x.length ≤ 1000000) :
    Calls Tryz.prog 76 #[.string (strOf d), nodeV A x.length c C m c', nodeV A2 y.length c2 C2 m2 c2', .pointer (some ⟨gb, 0, none⟩)] W fun e W' => e = .returned (.tuple #[]) ∧ OutVar B gb (L ++ if (!decide (x = y)) = true then [d] else []) W' ∧ KB outT B W W' := by
  obtain ⟨tl, htl⟩ : ∃ tl, tl = if (!decide (x = y)) = true then [d] else [] := ⟨_, rfl⟩
  rw [← htl]
  have HTL := Lib.hid htl
  clear htl
  obtain ⟨hgb, v, hbx, ho⟩ := hJ
  obtain ⟨w2, hw2⟩ : ∃ w2, w2 = (W.alloc (.cells #[.slice A x.length c, .slice C m c'] 116)).alloc (.cells #[.slice A2 y.length c2, .slice C2 m2 c2'] 116) := ⟨_, rfl⟩
  have E2 := Lib.hid (show Ext W w2 by rw [hw2]; exact (Ext.alloc _ _).trans (Ext.alloc _ _))
  have Y1 := Lib.hid (show isBlk w2 W.heap.size 116 #[.slice A x.length c, .slice C m c'] by rw [hw2]; exact (box_at W _ _).alloc _)
  have Y2 := Lib.hid (show isBlk w2 (W.heap.size + 1) 116 #[.slice A2 y.length c2, .slice C2 m2 c2'] by
    rw [hw2]
    have := box_at (W.alloc (.cells #[.slice A x.length c, .slice C m c'] 116)) #[.slice A2 y.length c2, .slice C2 m2 c2'] 116
    rwa [World.size_alloc] at this)
  have HW := Lib.hid hw2
  have X2 := Lib.hid (hbx.below E2.out)
  have O2 := Lib.hid (own_ext ho E2.out)
  have SC := Lib.hid (same_calls x y A A2 c c2 w2 (hx.ext E2.out) (hy.ext E2.out) (by omega))
  have HB := Lib.hid (show B ≤ w2.heap.size from Nat.le_trans hB E2.out.size)
  have HBW := Lib.hid hB
  clear hbx ho hw2 hx hy hB
  go_enter Tryz.func76, Tryz.ntmps76
  go_upto_region 1 with fail
  rw [← HW.out]
  have f0 := (Y1.out.cell 0).trans rfl
  have f1 := (Y2.out.cell 0).trans rfl
  clear HW
  go_wp2_with fail
  refine SC.out.mono ?_
  rintro e w3 ⟨rfl, hb3⟩
  have E3 := Lib.hid hb3
  obtain ⟨b, hbq⟩ : ∃ b, b = decide (x = y) := ⟨_, rfl⟩
  rw [← hbq]
  have TL := Lib.hid (show tl = if (!b) = true then [d] else [] by rw [HTL.out, hbq])
  clear hb3 f0 f1 SC hbq HTL
  cases b with
  | true =>
    go_wp2
    go_end0
    refine ⟨rfl, ⟨hgb, v, X2.out.below E3.out, ?_⟩, KB.ext HBW.out (E2.out.trans E3.out)⟩
    rw [TL.out, show (if (!true) = true then [d] else []) = [] from rfl, List.append_nil]
    exact own_ext O2.out E3.out
  | false =>
    have X3 := Lib.hid (X2.out.below E3.out)
    have O3 := Lib.hid (own_ext O2.out E3.out)
    have HB3 := Lib.hid (Nat.le_trans HB.out E3.out.size)
    have hap := told_apart X3.out O3.out (by decide)
    have HA := Lib.hid hap
    have f0 := (X3.out.cell 0).trans rfl
    have tokA : True := trivial
    clear hap
    go_wp2_with (have _t := tokA; at_builtin; refine app_new appStr rfl _ _ rfl B v L.length _ rfl O3.out #[.string (strOf d)] 9 1 rfl rfl (by intro u hu; simp at hu; subst hu; rfl) (by decide) (by omega) HB3.out ?_; intro g9 cap9 w9 hown9 hgr9 hb9 hbg9; have O9 := Lib.hid (show w9.ownsRow B 9 1 (.slice (some ⟨g9, 0, none⟩) (L.length + 1) cap9) (L.length + 1) (strsC L ++ [.string (strOf d)]) from hown9); have X9 := Lib.hid (blk_grown X3.out hgr9 HA.out); have K9 := Lib.hid (show KB outT B w3 w9 from KB.grown O3.out (.inl rfl) hgr9 hb9); have k0 := X9.out.frozen 0; have k2 := (X9.out.cell 0).trans rfl; clear tokA _t hown9 hgr9 hb9 hbg9 f0)
    go_end0
    refine ⟨rfl, ⟨hgb, _, X9.out.put 0 _ rfl, ?_⟩, ((KB.ext HBW.out (E2.out.trans E3.out)).trans K9.out).trans (KB.set X9.out (.inr rfl) hgb _)⟩
    rw [TL.out, show (if (!false) = true then [d] else []) = [d] from rfl, List.length_append, strsC, List.map_append]
    refine own_far O9.out ?_ _
    exact told_apart X9.out O9.out (by decide)
theorem two_range {w : World} {g : Nat} {k : Sp.Two} (h : isBlk w g 263 (twoL k).toArray) (j : Nat) (l : List Value) (hl : ∀ i v, l[i]? = some v → (twoL k)[j + i]? = some v) : w.rangeAt g j l := fun i v hi => by
  rw [h.cell]
  simpa using hl i v hi
theorem two_at3 (k : Sp.Two) (h : TwoOk k) : (∀ i v, (k.2.2.2.1.map byteV)[i]? = some v → (twoL k)[3 + i]? = some v) ∧ (∀ i v, (k.2.2.2.2.map byteV)[i]? = some v → (twoL k)[35 + i]? = some v) := by
  refine ⟨fun i v hv => ?_, fun i v hv => ?_⟩
  · rw [twoL, List.getElem?_append_right (by simp), List.getElem?_append_left (by have := (List.getElem?_eq_some_iff.1 hv).1; simp at this ⊢; omega)]
    simpa using hv
  · rw [twoL, List.getElem?_append_right (by simp; omega), List.getElem?_append_right (by simp [h.1]; omega)]
    have : 35 + i - ([Value.string (strOf k.1)] ++ [Value.bool k.2.1] ++ [Value.bool k.2.2.1]).length - (k.2.2.2.1.map byteV).length = i := by simp [h.1]; omega
    rw [this]
    exact hv
section
variable {P : Program} {ops : Array Oper} {rest : List Oper} {op : Oper} {a : Act} {w : World} {Q : Exit → Act → World → Prop}
theorem wpListG_load_mid (hw : Region.wanted op (yielded ops a.tmps) = true) (ty : TypeId) (x : Operand) (ho : op.op = .load ty x)
    (b o : Nat) (hx : a.eval x = .pointer (some ⟨b, o, none⟩)) (cs : List Value) (d : TypeDesc) (hc : w.rangeAt b o cs)
    (hu : P.underlying ty = some d) (hd : d.isRow = true) (hi : (P.info? ty).map (·.size) = some cs.length)
    (h : wpList P ops Q rest (a.put op.dst (.agg cs.toArray)) w) : wpList P ops Q (op :: rest) a w := by
  unfold wpList
  rw [if_pos hw]
  exact .inl (wp_load_mid ty x ho b o hx cs d hc hu hd hi h)
end
set_option maxRecDepth 100000 in
set_option maxHeartbeats 4000000 in
theorem two_calls (k : Sp.Two) (h : TwoOk k) (w : World) : Calls Tryz.prog 214 #[.agg (twoL k).toArray] w fun e w' => e = .returned (.bool (Sp.differ2 k)) ∧ Ext w w' := by
  have D2 := Lib.hid (show Sp.differ2 k = (!k.2.1 || (!k.2.2.1 || k.2.2.2.1 != k.2.2.2.2)) from rfl)
  have T3 := Lib.hid (two_at3 k h)
  have HK := Lib.hid h
  have TZ := twoL_len k h
  have c1 : (twoL k)[1]? = some (.bool k.2.1) := rfl
  have c2 : (twoL k)[2]? = some (.bool k.2.2.1) := rfl
  obtain ⟨cs, hcs⟩ : ∃ cs, cs = (twoL k).toArray := ⟨_, rfl⟩
  have CS := Lib.hid hcs
  have e1 := Lib.hid (show cs[1]? = some (.bool k.2.1) by rw [hcs]; simpa using c1)
  have e2 := Lib.hid (show cs[2]? = some (.bool k.2.2.1) by rw [hcs]; simpa using c2)
  rw [← hcs]
  have tok1 : True := trivial
  clear h c1 c2 hcs TZ
  go_enter Tryz.func214, Tryz.ntmps214
  go_upto_region 1 with (have _t := tok1; ((with_reducible refine at_box (t := 263) rfl ?_); refine box_new rfl (cs := cs) (t := 263) (by first | (go_simp; done) | (go_simp; rfl)) ?_; intro g2 w2 hg2 hx2 hb2; have X2 := Lib.hid hx2; have B2 := Lib.hid (show Ext w w2 from hb2); clear tok1 _t hx2 hb2 hg2))
  have f1 := (X2.out.cell 1).trans e1.out
  have f2 := (X2.out.cell 2).trans e2.out
  have XK := Lib.hid (show isBlk w2 g2 263 (twoL k).toArray by rw [← CS.out]; exact X2.out)
  have R3 := Lib.hid (two_range XK.out 3 _ T3.out.1)
  have R4 := Lib.hid (two_range XK.out 35 _ T3.out.2)
  have L3 := Lib.hid (show (k.2.2.2.1.map byteV).length = 32 by rw [List.length_map, HK.out.1])
  have L4 := Lib.hid (show (k.2.2.2.2.map byteV).length = 32 by rw [List.length_map, HK.out.2.1])
  have M3 := Lib.hid (show (k.2.2.2.1.map byteV).toArray = digC k.2.2.2.1 from rfl)
  have M4 := Lib.hid (show (k.2.2.2.2.map byteV).toArray = digC k.2.2.2.2 from rfl)
  have hq := dig_eqv k.2.2.2.1 k.2.2.2.2 HK.out.1 HK.out.2.1 w2
  have hg := dig_guard
  obtain ⟨p, hp⟩ : ∃ p, p = k.2.1 := ⟨_, rfl⟩
  obtain ⟨q, hq0⟩ : ∃ q, q = k.2.2.1 := ⟨_, rfl⟩
  obtain ⟨r, hr⟩ : ∃ r, r = (k.2.2.2.1 == k.2.2.2.2) := ⟨_, rfl⟩
  have D3 := Lib.hid (show Sp.differ2 k = (!p || (!q || !r)) by rw [D2.out, hp, hq0, hr]; rfl)
  rw [← hp] at f1
  rw [← hq0] at f2
  rw [← hr] at hq
  clear hp hq0 hr D2 e1 e2
  cases p with
  | false =>
    go_wp2
    go_ret
    exact ⟨by rw [D3.out]; rfl, B2.out⟩
  | true =>
    cases q with
    | false =>
      go_wp2
      go_ret
      exact ⟨by rw [D3.out]; rfl, B2.out⟩
    | true =>
      go_wp2_with (first
        | ((with_reducible refine at_load (t := 36) rfl ?_); refine wpListG_load_mid rfl _ _ rfl g2 3 rfl (k.2.2.2.1.map byteV) _ R3.out Tryz.underlying36 rfl (by rw [L3.out]; kernel_rfl) ?_; rw [M3.out])
        | ((with_reducible refine at_load (t := 36) rfl ?_); refine wpListG_load_mid rfl _ _ rfl g2 35 rfl (k.2.2.2.2.map byteV) _ R4.out Tryz.underlying36 rfl (by rw [L4.out]; kernel_rfl) ?_; rw [M4.out]))
      go_ret
      exact ⟨by rw [D3.out]; rfl, B2.out⟩
end Go.Proofs.YtmlfnidckfeebaaGreatDoor
