/- Deltas: what is opened, and what differs. Watching: what changed between two trees. Quotas: what a leaf uses. Quotas: what a directory uses. Quotas: the document's use of a directory. Deltas: the example of chapter 18; two lists that are not too much; two trees. Watching: the example of chapter 46. Entries that come in. -/
import Derived.Deep.SlicePairs
import Derived.Carry
import Derived.WideShapes
import Derived.ChangeArms
import Derived.OpenShut
import Derived.MakeChecks
import Derived.Test.YtmlfnidckfeebaaGreatDoorQQ023
namespace Go.Proofs.YtmlfnidckfeebaaGreatDoor
open Go.RowKit Go.Shelf
attribute [local go_sem] yUpon strOf_toList
set_option maxRecDepth 100000 in
set_option maxHeartbeats 4000000 in
theorem dopened_calls (k : Nat) (lb : Array Value) (eg : ∀ args (w : World), (callFunc k args).run Tryz.prog w = .ok (.enter k args) w)
    (oa ob : Option Sp.T) (ma mb : List Sp.DE) (PA : Sp.Both oa ma) (PB : Sp.Both ob mb) (a b : Value) (w0 : World) (ha : TreeAt w0 a oa) (hb : TreeAt w0 b ob) (K : KeysAt w0 2) (M : MaxAt w0)
    (J : List Sp.Bs → World → Prop) (hJ : ∀ L W W', J L W → KB noT w0.heap.size W W' → J L W') (tell : Sp.Bs → List Sp.Bs) (ht : ∀ d, (tell d).length ≤ 1)
    (hcb : ∀ L d A c B c' A2 c2 B2 c2' W, Sp.Dir d → L.length ≤ 1121154893057 → Ext w0 W → J L W → Vers W A (Sp.nodeS (oa.getD .nil) d).1 → Vers W A2 (Sp.nodeS (ob.getD .nil) d).1 →
      Calls Tryz.prog k (#[.string (strOf d), nodeV A (Sp.nodeS (oa.getD .nil) d).1.length c B (Sp.nodeS (oa.getD .nil) d).2.length c', nodeV A2 (Sp.nodeS (ob.getD .nil) d).1.length c2 B2 (Sp.nodeS (ob.getD .nil) d).2.length c2'] ++ lb) W fun e W' => e = .returned (.tuple #[]) ∧ J (L ++ tell d) W' ∧ KB outT w0.heap.size W W')
    (W : World) (hE : Ext w0 W) (hL : J [] W) :
    Calls Tryz.prog 73 #[a, b, .func (.func k) #[] lb] W fun e W' => e = .returned (.tuple #[]) ∧ J ((Sp.openedT (oa.getD .nil) (ob.getD .nil)).flatMap tell) W' ∧ KB outT w0.heap.size W W' := by
  have RA := Lib.hid (troot_calls oa a W (ha.ext hE) (K.ext hE))
  have RB := Lib.hid fun W2 (e : Ext W W2) => troot_calls ob b W2 (hb.ext (hE.trans e)) (K.ext (hE.trans e))
  have PO := Lib.hid fun gp W2 (e : Ext W W2) hp => popen_calls k lb eg oa ob ma mb PA PB a b w0 ha hb K M gp J hJ tell ht hcb 5 [] (.inl rfl) (by decide) [] W2 (hE.trans e) hp (hJ _ _ _ hL (KB.ext hE.size e)) (by decide)
  have OT := Lib.hid (show Sp.openedT (oa.getD .nil) (ob.getD .nil) = if Sp.nsum (Sp.nodeT (oa.getD .nil)) = Sp.nsum (Sp.nodeT (ob.getD .nil)) then [] else Sp.openT (oa.getD .nil) (ob.getD .nil) 5 [] from rfl)
  have HJ := Lib.hid hJ
  have HL := Lib.hid hL
  have HE := Lib.hid hE
  obtain ⟨pa, rfl⟩ := tree_ptr ha
  obtain ⟨pb, rfl⟩ := tree_ptr hb
  obtain ⟨R, hR⟩ : ∃ R, R = Sp.openedT (oa.getD .nil) (ob.getD .nil) := ⟨_, rfl⟩
  rw [← hR] at OT ⊢
  obtain ⟨r1, hr1⟩ : ∃ r1, r1 = Sp.nsum (Sp.nodeT (oa.getD .nil)) := ⟨_, rfl⟩
  obtain ⟨r2, hr2⟩ : ∃ r2, r2 = Sp.nsum (Sp.nodeT (ob.getD .nil)) := ⟨_, rfl⟩
  have hqr := fun W => dig_eqv r1 r2 (by rw [hr1]; exact Sp.nsum_len _) (by rw [hr2]; exact Sp.nsum_len _) W
  have hg := dig_guard
  rw [← hr1] at RA OT
  rw [← hr2] at RB OT
  obtain ⟨O, hO⟩ : ∃ O, O = Sp.openT (oa.getD .nil) (ob.getD .nil) 5 [] := ⟨_, rfl⟩
  rw [← hO] at OT PO
  clear PA PB ha hb K M hJ hcb hR hr1 hr2 hL hE hO ht
  go_enter Tryz.func73, Tryz.ntmps73
  go_wp2_with fail
  refine RA.out.mono ?_
  rintro e w1 ⟨rfl, hb1⟩
  have E1 := Lib.hid hb1
  clear hb1 RA
  go_wp2_with fail
  refine (RB.out w1 E1.out).mono ?_
  rintro e w2 ⟨rfl, hb2⟩
  have E2 := Lib.hid (E1.out.trans hb2)
  clear hb2 RB
  by_cases hrr : r1 = r2
  · have hq := hqr
    rw [show (r1 == r2) = true by rw [hrr]; exact beq_self_eq_true _] at hq
    have OT2 := Lib.hid (show R = [] by rw [OT.out, if_pos hrr])
    clear hrr hqr OT
    go_wp2
    refine bodyPost_ret (results_none rfl _ _ _) rfl ?_
    exact ⟨rfl, by rw [OT2.out]; exact HJ.out _ _ _ HL.out (KB.ext HE.out.size E2.out), KB.ext HE.out.size E2.out⟩
  · have hq := hqr
    rw [show (r1 == r2) = false by rw [beq_eq_false_iff_ne]; exact hrr] at hq
    have OT2 := Lib.hid (show R = O by rw [OT.out, if_neg hrr])
    clear hrr hqr OT
    have tok1 : True := trivial
    go_wp2_with (have _t := tok1; ((with_reducible refine at_box (t := 197) rfl ?_); refine box_new rfl (cs := #[.pointer pa, .pointer pb, .func (.func k) #[] lb]) (t := 197) (by first | (go_simp; done) | (go_simp; rfl)) ?_; intro g3 w3 hg3 hx3 hb3; have X3 := Lib.hid hx3; have B3 := Lib.hid (show Ext w2 w3 from hb3); clear tok1 _t hx3 hb3 hg3))
    refine (PO.out g3 w3 (E2.out.trans B3.out) X3.out).mono ?_
    rintro e w4 ⟨rfl, hj4, hk4⟩
    have J4 := Lib.hid hj4
    have K4 := Lib.hid hk4
    clear hj4 hk4 PO
    go_wp2
    go_end0
    exact ⟨rfl, by rw [OT2.out]; exact J4.out, (KB.ext HE.out.size (E2.out.trans B3.out)).trans K4.out⟩
theorem outvar_new (w : World) : OutVar w.heap.size w.heap.size [] (w.alloc (.cells #[.slice none 0 0] 32)) := ⟨Nat.le_refl _, _, box_at w _ _, World.ownsRow_nil _ _ _ _⟩
set_option maxRecDepth 100000 in
set_option maxHeartbeats 4000000 in
theorem Differ_calls (oa ob : Option Sp.T) (ma mb : List Sp.DE) (PA : Sp.Both oa ma) (PB : Sp.Both ob mb) (a b : Value) (w : World) (ha : TreeAt w a oa) (hb : TreeAt w b ob) (K : KeysAt w 2) (M : MaxAt w) :
    Calls Tryz.prog 22 #[a, b] w fun e w' => ∃ v, e = .returned v ∧ w'.ownsRow w.heap.size 9 1 v (Sp.differT (oa.getD .nil) (ob.getD .nil)).length (strsC (Sp.differT (oa.getD .nil) (ob.getD .nil))) ∧ Ext w w' := by
  have DO := Lib.hid fun W (e : Ext w W) (h : OutVar w.heap.size w.heap.size [] W) => dopened_calls 76 #[.pointer (some ⟨w.heap.size, 0, none⟩)] (enters_of Tryz.func76 (by kernel_rfl) rfl) oa ob ma mb PA PB a b w ha hb K M (OutVar w.heap.size w.heap.size) (fun L W W' h k => h.keep k) (fun d => if (!decide ((Sp.nodeS (oa.getD .nil) d).1 = (Sp.nodeS (ob.getD .nil) d).1)) = true then [d] else []) (fun _ => by split <;> simp)
    (fun L d A c B c' A2 c2 B2 c2' W hd hl hE hj hv hv2 => told_diff w.heap.size w.heap.size L d _ _ A A2 B B2 c _ c' c2 _ c2' W hj hE.size hl hv hv2 (Sp.node_leafs PA.go hd)) W e h
  obtain ⟨pa, rfl⟩ := tree_ptr ha
  obtain ⟨pb, rfl⟩ := tree_ptr hb
  have FM : (Sp.openedT (oa.getD .nil) (ob.getD .nil)).flatMap (fun d => if (!decide ((Sp.nodeS (oa.getD .nil) d).1 = (Sp.nodeS (ob.getD .nil) d).1)) = true then [d] else []) = Sp.differT (oa.getD .nil) (ob.getD .nil) := by
    unfold Sp.differT Sp.leafdiff
    generalize Sp.openedT (oa.getD .nil) (ob.getD .nil) = l
    induction l with
    | nil => rfl
    | cons x r ih =>
      rw [List.flatMap_cons, ih]
      by_cases h : (Sp.nodeS (oa.getD .nil) x).1 = (Sp.nodeS (ob.getD .nil) x).1 <;> simp [h]
  rw [FM] at DO
  obtain ⟨R, hR⟩ : ∃ R, R = Sp.differT (oa.getD .nil) (ob.getD .nil) := ⟨_, rfl⟩
  rw [← hR] at DO ⊢
  have hmf : ∀ (fn : Fn) (first cap : Array Value) (w : World), (Instr.makeFunc fn first cap).run Tryz.prog w = .ok (.func fn first cap) w := fun _ _ _ _ => rfl
  clear PA PB ha hb K M FM hR
  go_enter Tryz.func22, Tryz.ntmps22
  go_upto_region 2 with fail
  obtain ⟨w1, hw1⟩ : ∃ w1, w1 = w.alloc (.cells #[.slice none 0 0] 32) := ⟨_, rfl⟩
  have J1 := Lib.hid (show OutVar w.heap.size w.heap.size [] w1 by rw [hw1]; exact outvar_new w)
  have E1 := Lib.hid (show Ext w w1 by rw [hw1]; exact Ext.alloc _ _)
  rw [← hw1]
  clear hw1
  go_wp2_with fail
  refine (DO.out w1 E1.out J1.out).mono ?_
  rintro e w2 ⟨rfl, ⟨_, v, hx, ho⟩, hk⟩
  have X2 := Lib.hid hx
  have O2 := Lib.hid ho
  have E2 := Lib.hid (show Ext w w2 from E1.out.trans' hk.below)
  have f0 := (X2.out.cell 0).trans rfl
  clear hx ho hk DO
  go_wp2
  go_ret
  exact ⟨v, rfl, O2.out, E2.out⟩
end Go.Proofs.YtmlfnidckfeebaaGreatDoor
namespace Go.Proofs.YtmlfnidckfeebaaGreatDoor
open Go.RowKit Go.Shelf
attribute [local go_sem] yUpon strOf_toList
def chgsC : List Sp.Chg → List Value
  | [] => []
  | c :: r => (chgC c).toList ++ chgsC r
theorem chgsC_append (l m : List Sp.Chg) : chgsC (l ++ m) = chgsC l ++ chgsC m := by
  induction l with
  | nil => rfl
  | cons x r ih => rw [List.cons_append, chgsC, ih, chgsC, List.append_assoc]
theorem chgsC_len : ∀ l : List Sp.Chg, (chgsC l).length = l.length * 4
  | [] => rfl
  | c :: r => by
    have := chgsC_len r
    show ((chgsC r).length + 1 + 1 + 1 + 1) = (r.length + 1) * 4
    omega
theorem chgsC_get : ∀ (l : List Sp.Chg) (k : Nat) (h : k < l.length) (j : Nat) (v : Value), (chgC l[k]).toList[j]? = some v → (chgsC l)[k * 4 + j]? = some v
  | c :: r, 0, _, j, v, hv => by
    have hv2 : (chgC c).toList[j]? = some v := hv
    rw [Nat.zero_mul, Nat.zero_add]
    show ((chgC c).toList ++ chgsC r)[j]? = some v
    rw [List.getElem?_append_left (List.getElem?_eq_some_iff.1 hv2).1]
    exact hv2
  | c :: r, k + 1, h, j, v, hv => by
    have ih := chgsC_get r k (by simpa using h) j v hv
    have l4 : (chgC c).toList.length = 4 := rfl
    show ((chgC c).toList ++ chgsC r)[(k + 1) * 4 + j]? = some v
    rw [List.getElem?_append_right (by omega), l4, show (k + 1) * 4 + j - 4 = k * 4 + j by omega]
    exact ih
theorem chg_at {w : World} {A : Option Addr} {l : List Sp.Chg} (h : Cells w A (chgsC l)) (hn : 0 < l.length) : ∃ g o, A = some ⟨g, o, none⟩ ∧ ∀ k (hk : k < l.length), w.cell? ⟨g, o + k * 4, none⟩ = some (.string (strOf l[k].path)) ∧ w.cell? ⟨g, o + k * 4 + 1, none⟩ = some (.int .i64 l[k].kind) ∧ w.cell? ⟨g, o + k * 4 + 2, none⟩ = some (.string (strOf l[k].was)) ∧ w.cell? ⟨g, o + k * 4 + 3, none⟩ = some (.string (strOf l[k].now)) := by
  obtain ⟨g, o, hA, hc⟩ := h (by intro e; have := chgsC_len l; rw [e] at this; simp at this; omega)
  refine ⟨g, o, hA, fun k hk => ⟨?_, ?_, ?_, ?_⟩⟩
  · have := hc _ _ (chgsC_get l k hk 0 _ rfl); simpa using this
  · rw [Nat.add_assoc]; exact hc _ _ (chgsC_get l k hk 1 _ rfl)
  · rw [Nat.add_assoc]; exact hc _ _ (chgsC_get l k hk 2 _ rfl)
  · rw [Nat.add_assoc]; exact hc _ _ (chgsC_get l k hk 3 _ rfl)
theorem chg_one (c : Sp.Chg) : ∀ u ∈ (chgC c).toList, u.oneCell' = true := by
  intro u hu
  simp at hu
  rcases hu with rfl | rfl | rfl | rfl <;> rfl
theorem appChg : AppStat Tryz.prog 74 88 4 56 := by
  refine ⟨Tryz.underlying74, by decide, by decide, ?_⟩
  obtain ⟨i0, hi, hz0, hz1, hz2⟩ := info_parts (show (Tryz.prog.info? 88).map (fun i => (i.zero, i.size, i.bytes)) = some (some (.agg #[.string ⟨#[]⟩, .int .i64 0, .string ⟨#[]⟩, .string ⟨#[]⟩]), 4, 56) by kernel_rfl)
  exact ⟨i0, _, hi, hz0, hz1, hz2, by kernel_rfl⟩
namespace Sp
theorem between_take (D : List Bs) (f g : Bs → List Ver) (k : Nat) (h : k < D.length) : betweenL (D.take (k + 1)) f g = betweenL (D.take k) f g ++ if kindS (f D[k]) (g D[k]) = 0 then [] else [⟨D[k], kindS (f D[k]) (g D[k]), data0 (f D[k]), data0 (g D[k])⟩] := by
  unfold betweenL
  rw [List.take_succ_eq_append_getElem h, List.filterMap_append]
  congr 1
  unfold changeS
  by_cases hk : kindS (f D[k]) (g D[k]) = 0 <;> simp [hk]
theorem between_len (D : List Bs) (f g : Bs → List Ver) : (betweenL D f g).length ≤ D.length := List.length_filterMap_le _ _
theorem rget_short {o : Option T} {m : List DE} (P : Both o m) (p : Bs) : (rget m p).length ≤ 1000 := by
  rcases rget_mem m p with h | ⟨e, he, h⟩
  · rw [h]; exact Nat.zero_le _
  · rw [h]
    have h0 := (told_leaf0 P e he).1
    unfold leaf at h0
    split at h0
    · cases h0
    · omega
end Sp
set_option maxRecDepth 100000 in
set_option maxHeartbeats 8000000 in
theorem wbetween_calls (oa ob : Option Sp.T) (ma mb : List Sp.DE) (PA : Sp.Both oa ma) (PB : Sp.Both ob mb) (a b : Value) (w : World) (ha : TreeAt w a oa) (hb : TreeAt w b ob) (K : KeysAt w 2) (M : MaxAt w) :
    Calls Tryz.prog 51 #[a, b] w fun e w' => ∃ v, e = .returned v ∧ w'.ownsRow w.heap.size 88 4 v (Sp.betweenS (oa.getD .nil) (ob.getD .nil)).length (chgsC (Sp.betweenS (oa.getD .nil) (ob.getD .nil))) ∧ Ext w w' := by
  obtain ⟨pa, rfl⟩ := tree_ptr ha
  obtain ⟨pb, rfl⟩ := tree_ptr hb
  have DD := Lib.hid (Differ_calls oa ob ma mb PA PB (.pointer pa) (.pointer pb) w ha hb K M)
  have GA := Lib.hid (show ∀ d, Sp.check d = 0 → ∀ W, Ext w W → Calls Tryz.prog 29 #[.pointer pa, .string (strOf d)] W fun e w' => ∃ A c, e = .returned (.slice A (Sp.rget ma d).length c) ∧ Vers w' A (Sp.rget ma d) ∧ Ext W w' from fun d hd W e => by
    rw [(Sp.names_node PA (.inr hd)).2]
    exact tget_calls oa (.pointer pa) d W (ha.ext e) PA.go (K.ext e) (max_kept M e))
  have GB := Lib.hid (show ∀ d, Sp.check d = 0 → ∀ W, Ext w W → Calls Tryz.prog 29 #[.pointer pb, .string (strOf d)] W fun e w' => ∃ A c, e = .returned (.slice A (Sp.rget mb d).length c) ∧ Vers w' A (Sp.rget mb d) ∧ Ext W w' from fun d hd W e => by
    rw [(Sp.names_node PB (.inr hd)).2]
    exact tget_calls ob (.pointer pb) d W (hb.ext e) PB.go (K.ext e) (max_kept M e))
  have DM := Lib.hid (show ∀ p ∈ Sp.differT (oa.getD .nil) (ob.getD .nil), Sp.check p = 0 from fun p hp => (Sp.differ_dir PA PB p hp).1)
  have LA := Lib.hid fun p => Sp.rget_short PA p
  have LB := Lib.hid fun p => Sp.rget_short PB p
  have DL : (Sp.differT (oa.getD .nil) (ob.getD .nil)).length ≤ 1121154893057 := by
    have OL := Sp.openS_len oa ob (ma ++ mb) (by have := PA.gm.2; have := PB.gm.2; rw [List.length_append]; omega) 5 []
    have p5' : (257 : Nat) ^ 5 = 1121154893057 := by decide
    rw [p5', Sp.opened_both PA PB] at OL
    exact Nat.le_trans (List.length_filter_le _ _) OL
  have BB := Lib.hid (Sp.between_both PA PB)
  obtain ⟨R, hR⟩ : ∃ R, R = Sp.betweenS (oa.getD .nil) (ob.getD .nil) := ⟨_, rfl⟩
  rw [← hR] at BB ⊢
  obtain ⟨D, hD⟩ : ∃ D, D = Sp.differT (oa.getD .nil) (ob.getD .nil) := ⟨_, rfl⟩
  rw [← hD] at DD DM DL BB
  have BT := Lib.hid fun k h => Sp.between_take D (Sp.rget ma) (Sp.rget mb) k h
  have BN := Lib.hid (show ∀ k, k ≤ D.length → (Sp.betweenL (D.take k) (Sp.rget ma) (Sp.rget mb)).length ≤ k from fun k h => Nat.le_trans (Sp.between_len _ _ _) (by rw [List.length_take]; omega))
  clear PA PB ha hb K M hR hD
  go_enter Tryz.func51, Tryz.ntmps51
  go_wp2_with fail
  refine DD.out.mono ?_
  rintro e w1 ⟨v1, rfl, hO1, hb1⟩
  obtain ⟨A1, c1, rfl, hc1⟩ := own_read hO1
  have N1 := Lib.hid (show Nams w1 A1 D from hc1)
  have E1 := Lib.hid hb1
  clear hO1 hc1 hb1 DD
  go_wp2
  go_loopw [5, 14] (fun v5 v14 wr => ∃ k : Nat, k ≤ D.length ∧ v14 = .int .i64 k ∧ wr.ownsRow w1.heap.size 88 4 v5 (Sp.betweenL (D.take k) (Sp.rget ma) (Sp.rget mb)).length (chgsC (Sp.betweenL (D.take k) (Sp.rget ma) (Sp.rget mb))) ∧ Ext w1 wr) (fun _ v14 _ => D.length - (intOf v14).toNat)
  case atStart => exact ⟨0, Nat.zero_le _, rfl, World.ownsRow_nil _ _ _ _, Ext.refl _⟩
  case round =>
    obtain ⟨k, hk, rfl, hO, hb⟩ := hrel
    have HX := Lib.hid hb
    have HO := Lib.hid hO
    clear hO hb
    by_cases hlt : k < D.length
    · obtain ⟨g, o, rfl, hat⟩ := N1.out.at (by omega)
      have C0 := Lib.hid (hat k hlt)
      have XP := DM.out _ (List.getElem_mem hlt)
      have ST := Lib.hid (BT.out k hlt)
      have nl := BN.out k hk
      obtain ⟨x, hx⟩ : ∃ x, x = D[k] := ⟨_, rfl⟩
      rw [← hx] at C0 XP ST
      have GX := Lib.hid fun W e => GA.out x XP W e
      have GY := Lib.hid fun W e => GB.out x XP W e
      have lx := LA.out x
      have ly := LB.out x
      obtain ⟨gx, hgx⟩ : ∃ gx, gx = Sp.rget ma x := ⟨_, rfl⟩
      obtain ⟨gy, hgy⟩ : ∃ gy, gy = Sp.rget mb x := ⟨_, rfl⟩
      rw [← hgx] at GX ST lx
      rw [← hgy] at GY ST ly
      obtain ⟨q, hq⟩ : ∃ q, q = Sp.betweenL (D.take k) (Sp.rget ma) (Sp.rget mb) := ⟨_, rfl⟩
      rw [← hq] at HO ST nl
      have kb : (k : Int) < (D.length : Int) := by omega
      have EX := Lib.hid (E1.out.trans HX.out)
      have f0 := HX.out.cell C0.out
      clear hat hx hgx hgy hq C0
      go_wp2_with fail
      refine (GX.out _ EX.out).mono ?_
      rintro e w2 ⟨A2, c2, rfl, hv2, hb2⟩
      have V2 := Lib.hid hv2
      have E2 := Lib.hid hb2
      clear hv2 hb2 f0 GX
      go_wp2_with fail
      refine (GY.out w2 (EX.out.trans E2.out)).mono ?_
      rintro e w3 ⟨A3, c3, rfl, hv3, hb3⟩
      have V3 := Lib.hid hv3
      have V23 := Lib.hid (V2.out.ext hb3)
      have E3 := Lib.hid (E2.out.trans hb3)
      clear hv3 hb3 GY V2
      go_wp2_with fail
      refine (wchange_calls x gx gy A2 A3 c2 c3 w3 V23.out V3.out lx ly).mono ?_
      rintro e w4 ⟨rfl, hb4⟩
      have E4 := Lib.hid (E3.out.trans hb4)
      obtain ⟨kk, hkk⟩ : ∃ kk, kk = Sp.kindS gx gy := ⟨_, rfl⟩
      rw [← hkk] at ST ⊢
      obtain ⟨ch, hch⟩ : ∃ ch : Sp.Chg, ch = ⟨x, kk, Sp.data0 gx, Sp.data0 gy⟩ := ⟨_, rfl⟩
      rw [← hch] at ST ⊢
      obtain ⟨bk, hbk⟩ : ∃ bk, bk = decide (kk ≠ 0) := ⟨_, rfl⟩
      rw [← hbk]
      have BK := Lib.hid hbk
      have tok1 : True := trivial
      clear hb4 hkk hch hbk V23 V3
      go_upto_region 6 with (have _t := tok1; ((with_reducible refine at_alloc (t := 88) rfl ?_); refine box_new rfl (cs := #[.string ⟨#[]⟩, .int .i64 0, .string ⟨#[]⟩, .string ⟨#[]⟩]) (t := 88) (by first | (go_simp; done) | (go_simp; rfl)) ?_; intro g5 w5 hg5 hx5 hb5; have H5 := Lib.hid hx5; have B5 := Lib.hid (show Ext w4 w5 from hb5); have GG5 := Lib.hid hg5; have k0 := hx5.frozen 0; have k1 := hx5.frozen 1; have k2 := hx5.frozen 2; have k3 := hx5.frozen 3; have e0 := (hx5.cell 0).trans rfl; have e1 := (hx5.cell 1).trans rfl; have e2 := (hx5.cell 2).trans rfl; have e3 := (hx5.cell 3).trans rfl; clear tok1 _t hx5 hb5 hg5))
      obtain ⟨w6, hw6⟩ : ∃ w6, w6 = (((w5.setCell ⟨g5, 0, none⟩ (.string (strOf ch.path))).setCell ⟨g5, 1, none⟩ (.int .i64 ch.kind)).setCell ⟨g5, 2, none⟩ (.string (strOf ch.was))).setCell ⟨g5, 3, none⟩ (.string (strOf ch.now)) := ⟨_, rfl⟩
      have X6 := Lib.hid (show isBlk w6 g5 88 #[.string (strOf ch.path), .int .i64 ch.kind, .string (strOf ch.was), .string (strOf ch.now)] by rw [hw6]; exact (((H5.out.put 0 _ rfl).put 1 _ rfl).put 2 _ rfl).put 3 _ rfl)
      have E6 := Lib.hid (show Ext w4 w6 by rw [hw6]; exact (((B5.out.setCell GG5.out _).setCell GG5.out _).setCell GG5.out _).setCell GG5.out _)
      rw [← hw6]
      clear hw6 k0 k1 k2 k3 e0 e1 e2 e3
      have F6 := Lib.hid (E4.out.trans E6.out)
      have O6 := Lib.hid (own_ext HO.out F6.out)
      have EW := Lib.hid (HX.out.trans F6.out)
      cases bk with
      | false =>
        have ST2 := Lib.hid (show Sp.betweenL (D.take (k + 1)) (Sp.rget ma) (Sp.rget mb) = q by
          have : kk = 0 := by have := BK.out; by_cases h : kk = 0; exact h; (rw [decide_eq_true h] at this; cases this)
          rw [ST.out, if_pos this, List.append_nil])
        clear ST
        go_wp2
        go_roundw
        case rel => exact ⟨k + 1, by omega, by go_num, by rw [ST2.out]; exact O6.out, EW.out⟩
        case measure => simp [intOf]; omega
      | true =>
        have ST2 := Lib.hid (show Sp.betweenL (D.take (k + 1)) (Sp.rget ma) (Sp.rget mb) = q ++ [ch] by
          have : ¬ kk = 0 := of_decide_eq_true BK.out.symm
          rw [ST.out, if_neg this])
        have f0 := (X6.out.cell 0).trans rfl
        have f1 := (X6.out.cell 1).trans rfl
        have f2 := (X6.out.cell 2).trans rfl
        have f3 := (X6.out.cell 3).trans rfl
        have tokA : True := trivial
        have tokS : True := trivial
        clear ST
        go_wp2_with (first
          | (have _t := tokS; (with_reducible refine at_bslice rfl ?_); refine bslice_one rfl 74 88 _ rfl appChg (by decide) (chgC ch) rfl rfl ?_; clear tokS _t)
          | (have _t := tokA; at_builtin; refine app_new appChg rfl _ _ rfl w1.heap.size _ q.length _ rfl O6.out (chgC ch) 88 1 rfl rfl (chg_one ch) (by decide) (by omega) EW.out.size ?_; intro g9 cap9 w9 hown9 hgr9 hb9 hbg9; have O9 := Lib.hid hown9; have B9 := Lib.hid (Below.trans EW.out hb9); clear tokA _t hown9 hgr9 hb9 hbg9))
        go_roundw
        case rel =>
          refine ⟨k + 1, by omega, by go_num, ?_, B9.out⟩
          rw [ST2.out, List.length_append, chgsC_append, show chgsC [ch] = (chgC ch).toList from List.append_nil _]
          exact O9.out
        case measure => simp [intOf]; omega
    · obtain rfl : k = D.length := by omega
      rw [List.take_length, BB.out] at HO
      go_wp2
      go_ret
      exact ⟨_, rfl, own_lowT HO.out E1.out.size, E1.out.trans HX.out⟩
end Go.Proofs.YtmlfnidckfeebaaGreatDoor
namespace Go.Proofs.YtmlfnidckfeebaaGreatDoor
open Go.RowKit Go.Shelf
attribute [local go_sem] yUpon strOf_toList
namespace Sp
abbrev Use := Nat × Nat × Nat × Nat
end Sp
def useC (u : Sp.Use) : Array Value := #[.int .i64 u.1, .int .i64 u.2.1, .int .i64 u.2.2.1, .int .i64 u.2.2.2]
namespace Sp
def Small (n : Nat) (u : Use) : Prop := u.1 ≤ n ∧ u.2.1 ≤ n ∧ u.2.2.1 ≤ n ∧ u.2.2.2 ≤ n
end Sp
def usesC : List Sp.Use → List Value
  | [] => []
  | u :: r => (useC u).toList ++ usesC r
theorem usesC_len : ∀ l, (usesC l).length = l.length * 4
  | [] => rfl
  | u :: r => by rw [usesC, List.length_append, usesC_len r, List.length_cons]; simp [useC]; omega
theorem usesC_get : ∀ (l : List Sp.Use) (k j : Nat) (h : k < l.length), j < 4 → (usesC l)[k * 4 + j]? = (useC l[k])[j]?
  | u :: r, 0, j, h, hj => by
    rw [usesC, Nat.zero_mul, Nat.zero_add, List.getElem?_append_left (by simpa [useC] using hj)]
    simp
  | u :: r, k + 1, j, h, hj => by
    have := usesC_get r k j (by simpa using h) hj
    rw [usesC, List.getElem?_append_right (by simp [useC]; omega)]
    simp only [Array.length_toList, List.getElem_cons_succ]
    rw [← this]
    congr 1
    simp [useC]; omega
def Uses (w : World) (A : Option Addr) (l : List Sp.Use) : Prop := Cells w A (usesC l)
theorem Uses.ext {w w' : World} {A : Option Addr} {l : List Sp.Use} (h : Uses w A l) (e : Ext w w') : Uses w' A l := Cells.ext h e
theorem Uses.at {w : World} {A : Option Addr} {l : List Sp.Use} (h : Uses w A l) (hn : 0 < l.length) : ∃ g o, A = some ⟨g, o, none⟩ ∧ ∀ k (h : k < l.length), w.cell? ⟨g, o + k * 4, none⟩ = some (.int .i64 l[k].1) ∧ w.cell? ⟨g, o + k * 4 + 1, none⟩ = some (.int .i64 l[k].2.1) ∧ w.cell? ⟨g, o + k * 4 + 2, none⟩ = some (.int .i64 l[k].2.2.1) ∧ w.cell? ⟨g, o + k * 4 + 3, none⟩ = some (.int .i64 l[k].2.2.2) := by
  obtain ⟨g, o, hA, hc⟩ := h (by
    intro e
    have := usesC_len l
    rw [e] at this
    simp at this
    omega)
  refine ⟨g, o, hA, fun k hk => ⟨?_, ?_, ?_, ?_⟩⟩
  · exact hc _ _ (usesC_get l k 0 hk (by decide))
  · exact hc _ _ (usesC_get l k 1 hk (by decide))
  · exact hc _ _ (usesC_get l k 2 hk (by decide))
  · exact hc _ _ (usesC_get l k 3 hk (by decide))
end Go.Proofs.YtmlfnidckfeebaaGreatDoor
namespace Go.Proofs.YtmlfnidckfeebaaGreatDoor
open Go.RowKit Go.Shelf
attribute [local go_sem] yUpon strOf_toList
namespace Sp
theorem Small.mono {n m : Nat} {u : Use} (h : Small n u) (hn : n ≤ m) : Small m u := ⟨Nat.le_trans h.1 hn, Nat.le_trans h.2.1 hn, Nat.le_trans h.2.2.1 hn, Nat.le_trans h.2.2.2 hn⟩
end Sp
end Go.Proofs.YtmlfnidckfeebaaGreatDoor
namespace Go.Proofs.YtmlfnidckfeebaaGreatDoor
open Go.RowKit Go.Shelf
attribute [local go_sem] yUpon strOf_toList
namespace Sp
end Sp
theorem Only.cell {g k i : Nat} {u : Value} {w w' : World} (h : Only g w w') (hn : k ≠ g) (c : w.cell? ⟨k, i, none⟩ = some u) : w'.cell? ⟨k, i, none⟩ = some u :=
  (World.cell?_of_block (h.block k (World.block_lt_of_cell? w _ c) hn)).trans c
namespace Sp
end Sp
end Go.Proofs.YtmlfnidckfeebaaGreatDoor
namespace Go.Proofs.YtmlfnidckfeebaaGreatDoor
open Go.RowKit Go.Shelf
attribute [local go_sem] yUpon strOf_toList
namespace Sp
end Sp
theorem vers_e18 {w : World} {g : Nat} {t : TypeId} (v : Sp.Ver) (hv : v.past = []) (h : isBlk w g t (verC none 0 v)) : Vers w (some ⟨g, 0, none⟩) [v] :=
  ⟨[(none, 0, v)], rfl, fun _ => ⟨g, 0, rfl, fun i u hi => by
    rw [Nat.zero_add, h.cell i]
    have : (verC none 0 v).toList ++ [] = (verC none 0 v).toList := List.append_nil _
    rw [versC, versC, this] at hi
    simpa using hi⟩, fun x hx => by
    obtain rfl := List.mem_singleton.1 hx
    exact ⟨by rw [hv]; exact Cells.nil _ _, by rw [hv]; exact Nat.zero_le _⟩⟩
end Go.Proofs.YtmlfnidckfeebaaGreatDoor
namespace Go.Proofs.YtmlfnidckfeebaaGreatDoor
open Go.RowKit Go.Shelf
attribute [local go_sem] yUpon strOf_toList
namespace Sp
def e46V : Ver := ⟨(0, 1), [], false, [120]⟩
def e46T : T := .mk [] [([97], .mk [e46V] [])]
def e46X : List DE := [([97], [e46V])]
theorem e46_of : ofT none e46X = (some e46T, 0) := by kernel_rfl
theorem e46_roots : nsum (nodeT .nil) ≠ nsum (nodeT e46T) := by decide +kernel
theorem e46_between : betweenS .nil e46T = [⟨[97], 1, [], [120]⟩] := by
  obtain ⟨z, hz⟩ : ∃ z, z = nsum (nodeT (.mk [e46V] [])) := ⟨_, rfl⟩
  have a0 : nodeS .nil [] = ([], []) := by rfl
  have b0 : nodeS e46T [] = ([], [([97], z)]) := by rw [hz]; rfl
  have a1 : nodeS .nil [97] = ([], []) := by rfl
  have b1 : nodeS e46T [97] = ([e46V], []) := by rfl
  have k0 : kids2 [] [([97], z)] = [([97], false, true, z32, z)] := by rw [kids2, kids2]
  have k2 : kids2 [] [] = [] := by rw [kids2]
  have d1 : down [] [97] = [97] := rfl
  have ho : openedT .nil e46T = [[], [97]] := by
    unfold openedT
    rw [if_neg e46_roots]
    simp [openT, a0, b0, a1, b1, k0, k2, d1, differ2]
  have h0 : leafdiff .nil e46T [] = false := by rfl
  have h1 : leafdiff .nil e46T [97] = true := by rfl
  have hd : differT .nil e46T = [[97]] := by
    unfold differT
    rw [ho]
    simp [h0, h1]
  unfold betweenS
  rw [hd]
  rfl
end Sp
theorem ents_one {w : World} {g gv : Nat} {p : Sp.Bs} {v : Sp.Ver} (h : isBlk w g 43 #[.string (strOf p), .slice (some ⟨gv, 0, none⟩) 1 1]) (hv : Vers w (some ⟨gv, 0, none⟩) [v]) : EntsAt w (some ⟨g, 0, none⟩) [(p, [v])] :=
  ⟨[(some ⟨gv, 0, none⟩, 1, (p, [v]))], rfl, fun _ => ⟨g, 0, rfl, fun i u hi => by
    rw [Nat.zero_add, h.cell i]
    rw [show entsC [(some (⟨gv, 0, none⟩ : Addr), 1, ((p, [v]) : Sp.DE))] = [.string (strOf p), .slice (some ⟨gv, 0, none⟩) 1 1] from rfl] at hi
    simpa using hi⟩, fun x hx => by
    simp only [List.mem_cons, List.not_mem_nil, or_false] at hx
    subst hx
    exact hv⟩
set_option maxRecDepth 100000 in
set_option maxHeartbeats 8000000 in
theorem awake46_calls (w : World) (K : KeysAt w 2) (M : MaxAt w) :
    Calls Tryz.prog 49 #[] w fun e w' => e = .returned (.bool true) ∧ Ext w w' := by
  have KK := Lib.hid K
  have MM := Lib.hid M
  have tok : True := trivial
  have tokE : True := trivial
  clear K M
  go_enter Tryz.func49, Tryz.ntmps49
  go_wp2_with (first
    | (have _t := tok; (with_reducible refine at_bslice rfl ?_); refine bslice_new rfl 41 71 _ rfl appVer (by decide) (verC none 0 Sp.e46V) rfl rfl ?_; intro gv wv hgv hxv hbv; have XV := Lib.hid hxv; have BV := Lib.hid hbv; clear tok _t hgv hxv hbv)
    | (have _t := tokE; (with_reducible refine at_bslice rfl ?_); refine bslice_new rfl 22 43 _ rfl appEnt (by decide) #[.string (strOf [97]), .slice (some ⟨gv, 0, none⟩) 1 1] rfl rfl ?_; intro ge w1 hge hx1 hb1; have X1 := Lib.hid hx1; have E1 := Lib.hid hb1; clear tokE _t hge hx1 hb1))
  have V1 := Lib.hid (vers_e18 Sp.e46V rfl (XV.out.below E1.out))
  have HE := ents_one X1.out V1.out
  have B1 := Lib.hid (BV.out.trans E1.out)
  have OC := Lib.hid (of_calls Sp.e46X (some ⟨ge, 0, none⟩) 1 w1 HE (by decide) (KK.out.ext B1.out) (max_kept MM.out B1.out))
  rw [Sp.e46_of] at OC
  clear HE
  refine OC.out.mono ?_
  rintro e w2 ⟨v2, rfl, ht2, hb2⟩
  obtain ⟨pa, rfl⟩ := tree_ptr ht2
  have T2 := Lib.hid ht2
  have B2 := Lib.hid (B1.out.trans hb2)
  clear ht2 hb2 OC V1 X1
  have PB := Lib.hid (Sp.both_of Sp.e46X)
  rw [Sp.e46_of] at PB
  have D1 := Lib.hid (wbetween_calls none (some Sp.e46T) [] _ Sp.both_none PB.out (.pointer none) (.pointer pa) w2 (.inl ⟨rfl, rfl⟩) T2.out (KK.out.ext B2.out) (max_kept MM.out B2.out))
  simp only [Option.getD_some, Option.getD_none] at D1
  rw [Sp.e46_between] at D1
  clear PB
  go_wp2_with fail
  refine D1.out.mono ?_
  rintro e w3 ⟨v3, rfl, hO3, hb3⟩
  obtain ⟨A3, c3, rfl, hc3⟩ := own_read hO3
  obtain ⟨g, o, rfl, hat⟩ := chg_at hc3 (by decide)
  obtain ⟨c0, c1, c2, c4⟩ := hat 0 (by decide)
  simp only [Nat.zero_mul, Nat.add_zero, List.getElem_cons_zero] at c0 c1 c2 c4
  have B3 := Lib.hid (B2.out.trans hb3)
  clear hO3 hc3 hat hb3 D1
  go_wp2
  go_ret
  exact ⟨rfl, B3.out⟩
end Go.Proofs.YtmlfnidckfeebaaGreatDoor
namespace Go.Proofs.YtmlfnidckfeebaaGreatDoor
open Go.RowKit Go.ChangeShapes Go.WideShapes Go.Deep
theorem addr_plus (g o j : Nat) : (⟨g, o, none⟩ : Addr).add j = ⟨g, o + j, none⟩ := by simp [Addr.add]
theorem cells_dots {w : World} {g o : Nat} {l : List Sp.Dot} (h : ∀ k (hk : k < l.length), w.cell? ⟨g, o + k * 2, none⟩ = some (.int .i64 (l[k]).1) ∧ w.cell? ⟨g, o + k * 2 + 1, none⟩ = some (.int .i64 (l[k]).2)) : Dots w (some ⟨g, o, none⟩) l := fun _ =>
  ⟨g, o, rfl, fun i u hi => by
    have hil : i < l.length * 2 := by
      rw [← dotsC_len]
      exact (List.getElem?_eq_some_iff.1 hi).1
    have hk : i / 2 < l.length := by omega
    have h1 := dotsC_get l (i / 2) hk
    have h2 := h (i / 2) hk
    rcases Nat.mod_two_eq_zero_or_one i with h0 | h0
    · have e : i / 2 * 2 = i := by omega
      rw [e] at h1 h2
      rw [h1.1] at hi
      rw [h2.1, hi]
    · have e : i / 2 * 2 + 1 = i := by omega
      have e2 : o + i / 2 * 2 + 1 = o + i := by omega
      rw [e] at h1
      rw [e2] at h2
      rw [h1.2] at hi
      rw [h2.2, hi]⟩
theorem cells_vers {w : World} {g o : Nat} {m : List (Option Addr × Nat × Sp.Ver)} (h : ∀ k (hk : k < m.length) j u, (verC m[k].1 m[k].2.1 m[k].2.2)[j]? = some u → w.cell? ⟨g, o + (k * 5 + j), none⟩ = some u) : Cells w (some ⟨g, o, none⟩) (versC m) := fun _ =>
  ⟨g, o, rfl, fun i u hi => by
    have hil : i < m.length * 5 := by
      rw [← versC_len]
      exact (List.getElem?_eq_some_iff.1 hi).1
    have hk : i / 5 < m.length := by omega
    have e : i / 5 * 5 + i % 5 = i := by omega
    have h1 := versC_get m (i / 5) (i % 5) hk (by omega)
    rw [e, hi] at h1
    have := h (i / 5) hk (i % 5) u h1.symm
    rwa [e] at this⟩
theorem cells_ents {w : World} {g o : Nat} {m : List (Option Addr × Nat × Sp.DE)} (h : ∀ k (hk : k < m.length), w.cell? ⟨g, o + k * 2, none⟩ = some (.string (strOf m[k].2.2.1)) ∧ w.cell? ⟨g, o + k * 2 + 1, none⟩ = some (.slice m[k].1 m[k].2.2.2.length m[k].2.1)) : Cells w (some ⟨g, o, none⟩) (entsC m) := fun _ =>
  ⟨g, o, rfl, fun i u hi => by
    have hil : i < m.length * 2 := by
      rw [← entsC_len]
      exact (List.getElem?_eq_some_iff.1 hi).1
    have hk : i / 2 < m.length := by omega
    have e : i / 2 * 2 + i % 2 = i := by omega
    have h1 := entsC_get m (i / 2) (i % 2) hk (by omega)
    rw [e, hi] at h1
    have h2 := h (i / 2) hk
    rcases Nat.mod_two_eq_zero_or_one i with h0 | h0
    · rw [h0] at h1 e
      rw [show i / 2 * 2 = i by omega] at h2
      rw [h2.1]
      simpa [entC] using h1.symm
    · rw [h0] at h1 e
      rw [show o + i / 2 * 2 + 1 = o + i by omega] at h2
      rw [h2.2]
      simpa [entC] using h1.symm⟩
section
variable {H : Type} {enc : TypeId × Value → H} {w : World} {base : Nat} {spare : Nat → Bool} {held : Bool}
theorem weights_mem {P : Program} {e : TypeId} : ∀ (l : List (DataW H)) (d : DataW H), d ∈ l → (DataW.weightsAll P e l).all (· ≤ reachBytes) = true → (d.weights P e).all (· ≤ reachBytes) = true
  | x :: r, d, h, ha => by
    unfold DataW.weightsAll at ha
    rw [List.all_append, Bool.and_eq_true] at ha
    rcases List.mem_cons.1 h with rfl | h
    · exact ha.1
    · exact weights_mem r d h ha.2
set_option maxRecDepth 100000 in
theorem open_dots {n : Nat} {cs : List Value} {x : DataW H × List MemPlace} (h : DataW.trod enc Tryz.prog w base spare held n 69 cs = some x) :
    ∃ (l : List Sp.Dot) (A : Option Addr) (cap : Nat), cs = [.slice A l.length cap] ∧ Dots w A l ∧ ((x.1.weights Tryz.prog 69).all (· ≤ reachBytes) = true → l.length ≤ 140737488351232) := by
  rcases open_slice_pairs Tryz.underlying69 Tryz.underlying68 (by kernel_rfl) rfl rfl (by kernel_rfl) (by kernel_rfl) h with ⟨hc, _⟩ | ⟨a, len, cap, m, n, V0, V1, D0, D1, P0, P1, hc, _, hl, hm, hmm, hx, hall⟩
  · exact ⟨[], none, 0, hc, Cells.nil _ _, fun _ => Nat.zero_le _⟩
  · have hlm : len ≤ m := by rw [hmm]; split <;> omega
    obtain ⟨g, o, spot⟩ := a
    refine ⟨(List.range len).map fun i => (intOf (V0 i), intOf (V1 i)), some ⟨g, o, spot⟩, cap, by simpa using hc, ?_, ?_⟩
    · rcases Nat.eq_zero_or_pos len with h0 | h0
      · subst h0; exact Cells.nil _ _
      · have hspot : spot = none := by simpa [Addr.add] using World.cell?_spot (hall 0 (by omega)).1
        subst hspot
        refine cells_dots fun k hk => ?_
        have hk' : k < len := by simpa using hk
        obtain ⟨h1, h2, h3, h4⟩ := hall k (by omega)
        obtain ⟨u, hu, _⟩ := DataW.trod_int Tryz.underlying3 h3
        obtain ⟨v, hv, _⟩ := DataW.trod_int Tryz.underlying3 h4
        simp only [List.cons.injEq, and_true] at hu hv
        rw [hu] at h1
        rw [hv] at h2
        rw [addr_plus] at h1 h2
        simp only [List.getElem_map, List.getElem_range, hu, hv, intOf]
        exact ⟨h1, h2⟩
    · intro ha
      rw [hx] at ha
      unfold DataW.weights at ha
      rw [Tryz.underlying69] at ha
      simp only [List.all_cons, Bool.and_eq_true, decide_eq_true_eq, List.length_map, List.length_range] at ha
      have hb : Tryz.prog.bytesOf 68 = 16 := by kernel_rfl
      have := ha.1
      rw [hb] at this
      simp only [reachBytes] at this
      simp only [List.length_map, List.length_range]
      omega
set_option maxRecDepth 100000 in
theorem open_ver {n : Nat} {cs : List Value} {x : DataW H × List MemPlace} (h : DataW.trod enc Tryz.prog w base spare held n 71 cs = some x) :
    ∃ y : Option Addr × Nat × Sp.Ver, cs = (verC y.1 y.2.1 y.2.2).toList ∧ Dots w y.1 y.2.2.past ∧ ((x.1.weights Tryz.prog 71).all (· ≤ reachBytes) = true → y.2.2.past.length ≤ 140737488351232) := by
  obtain ⟨xs, k, _, rfl, hl, hlen, hf⟩ := DataW.trod_struct Tryz.underlying71 h
  have c0 : Tryz.prog.cellsOf 71 = 5 := by kernel_rfl
  have c1 : Tryz.prog.cellsOf 68 = 2 := by kernel_rfl
  have c2 : Tryz.prog.cellsOf 69 = 1 := by kernel_rfl
  have c3 : Tryz.prog.cellsOf 4 = 1 := by kernel_rfl
  have c4 : Tryz.prog.cellsOf 9 = 1 := by kernel_rfl
  have c5 : Tryz.prog.cellsOf 3 = 1 := by kernel_rfl
  rw [c0] at hl
  match cs, hl, xs, hlen with
  | [a, b, c, d, e], _, [y0, y1, y2, y3], _ =>
    have g0 := hf 0 _ rfl
    have g1 := hf 1 _ rfl
    have g2 := hf 2 _ rfl
    have g3 := hf 3 _ rfl
    simp at g0 g1 g2 g3
    rw [c1] at g0
    rw [c2] at g1
    rw [c3] at g2
    rw [c4] at g3
    simp only [List.take_succ_cons, List.take_zero] at g0 g1 g2 g3
    obtain ⟨zs, k0, _, hz, hzl, hzlen, hzf⟩ := DataW.trod_struct Tryz.underlying68 g0
    match zs, hzlen with
    | [z0, z1], _ =>
      have i0 := hzf 0 _ rfl
      have i1 := hzf 1 _ rfl
      simp at i0 i1
      rw [c5] at i0 i1
      simp only [List.take_succ_cons, List.take_zero] at i0 i1
      obtain ⟨p, hp, _⟩ := DataW.trod_int Tryz.underlying3 i0
      obtain ⟨q, hq, _⟩ := DataW.trod_int Tryz.underlying3 i1
      obtain ⟨l, A, cap, hA, hd, hw⟩ := open_dots g1
      obtain ⟨bb, hbb, _⟩ := DataW.trod_bool Tryz.underlying4 g2
      obtain ⟨s, hs, _⟩ := DataW.trod_string Tryz.underlying9 g3
      simp only [List.cons.injEq, and_true] at hp hq hA hbb hs
      subst hp hq hA hbb hs
      refine ⟨(A, cap, ⟨(p, q), l, bb, s.data.toList⟩), ?_, hd, fun ha => hw ?_⟩
      · simp [strOf_self]
      · unfold DataW.weights at ha
        rw [Tryz.underlying71] at ha
        simp [DataW.weightsEach, List.all_append] at ha
        simpa using ha.2.1
set_option maxRecDepth 100000 in
theorem open_vers {n : Nat} {cs : List Value} {x : DataW H × List MemPlace} (h : DataW.trod enc Tryz.prog w base spare held n 41 cs = some x) :
    ∃ (l : List Sp.Ver) (A : Option Addr) (cap : Nat), cs = [.slice A l.length cap] ∧ ((x.1.weights Tryz.prog 41).all (· ≤ reachBytes) = true → Vers w A l) := by
  have ce : Tryz.prog.cellsOf 71 = 5 := by kernel_rfl
  rcases open_slice Tryz.underlying41 h with ⟨hc, _⟩ | ⟨a, len, cap, m, n, D, Pl, hc, _, hl, hm, hmm, hx, hall⟩
  · exact ⟨[], none, 0, hc, fun _ => Vers.nil _ _⟩
  · have hlm : len ≤ m := by rw [hmm]; split <;> omega
    obtain ⟨f, hf⟩ := choose_lt (n := len) (fun i hi => by
      obtain ⟨cs', h1, h2⟩ := hall i (by omega)
      obtain ⟨y, h3, h4, h5⟩ := open_ver h2
      exact ⟨y, (show w.cells? base (a.add (i * Tryz.prog.cellsOf 71)) (Tryz.prog.cellsOf 71) = some (verC y.1 y.2.1 y.2.2).toList ∧ Dots w y.1 y.2.2.past ∧ (((D i).weights Tryz.prog 71).all (· ≤ reachBytes) = true → y.2.2.past.length ≤ 140737488351232) from ⟨by rw [h1, h3], h4, h5⟩)⟩)
    obtain ⟨g, o, spot⟩ := a
    refine ⟨(List.range len).map fun i => (f i).2.2, some ⟨g, o, spot⟩, cap, by simpa using hc, fun ha => ?_⟩
    rcases Nat.eq_zero_or_pos len with h0 | h0
    · subst h0; exact Vers.nil _ _
    · have hcell : ∀ i, i < len → ∀ j u, (verC (f i).1 (f i).2.1 (f i).2.2)[j]? = some u → w.cell? ((⟨g, o, spot⟩ : Addr).add (i * 5 + j)) = some u := by
        intro i hi j u hj
        have h1 := (hf i hi).1
        rw [ce] at h1
        obtain ⟨_, h2, h3⟩ := World.cells?_some h1
        have hj5 : j < 5 := by
          have := (Array.getElem?_eq_some_iff.1 hj).1
          simpa using this
        have := h3 j hj5
        rw [add_add] at this
        rw [this, ← hj]
        simp
      have hspot : spot = none := by
        have := World.cell?_spot (hcell 0 h0 0 _ rfl)
        simpa [Addr.add] using this
      subst hspot
      refine ⟨(List.range len).map f, by simp, ?_, ?_⟩
      · refine cells_vers fun k hk j u hj => ?_
        have hk' : k < len := by simpa using hk
        simp only [List.getElem_map, List.getElem_range] at hj
        have := hcell k hk' j u hj
        rwa [addr_plus] at this
      · intro y hy
        obtain ⟨i, hi, rfl⟩ := List.mem_map.1 hy
        have hi' : i < len := by simpa using hi
        refine ⟨(hf i hi').2.1, (hf i hi').2.2 ?_⟩
        rw [hx] at ha
        unfold DataW.weights at ha
        rw [Tryz.underlying41] at ha
        simp only [List.all_cons, List.all_append, Bool.and_eq_true] at ha
        exact weights_mem _ _ (List.mem_map.2 ⟨i, List.mem_range.2 hi', rfl⟩) ha.2.1
set_option maxRecDepth 100000 in
theorem open_ents {n : Nat} {cs : List Value} {x : DataW H × List MemPlace} (h : DataW.trod enc Tryz.prog w base spare held n 22 cs = some x) :
    ∃ (l : List Sp.DE) (A : Option Addr) (cap : Nat), cs = [.slice A l.length cap] ∧ ((x.1.weights Tryz.prog 22).all (· ≤ reachBytes) = true → EntsAt w A l) := by
  rcases open_slice_pairs Tryz.underlying22 Tryz.underlying43 (by kernel_rfl) rfl rfl (by kernel_rfl) (by kernel_rfl) h with ⟨hc, _⟩ | ⟨a, len, cap, m, n, V0, V1, D0, D1, P0, P1, hc, _, hl, hm, hmm, hx, hall⟩
  · exact ⟨[], none, 0, hc, fun _ => ⟨[], rfl, Cells.nil _ _, fun _ h => by cases h⟩⟩
  · have hlm : len ≤ m := by rw [hmm]; split <;> omega
    obtain ⟨g, o, spot⟩ := a
    obtain ⟨f, hf⟩ := choose_lt (n := len) (p := fun i (y : Option Addr × Nat × Sp.DE) => w.cell? ((⟨g, o, spot⟩ : Addr).add (i * 2)) = some (.string (strOf y.2.2.1)) ∧ w.cell? ((⟨g, o, spot⟩ : Addr).add (i * 2 + 1)) = some (.slice y.1 y.2.2.2.length y.2.1) ∧ (((D1 i).weights Tryz.prog 41).all (· ≤ reachBytes) = true → Vers w y.1 y.2.2.2)) (fun i hi => by
      obtain ⟨h1, h2, h3, h4⟩ := hall i (by omega)
      obtain ⟨s, hs, _⟩ := DataW.trod_string Tryz.underlying9 h3
      obtain ⟨l, A, c, hA, hv⟩ := open_vers h4
      simp only [List.cons.injEq, and_true] at hs hA
      exact ⟨(A, c, (s.data.toList, l)), by rw [h1, hs, strOf_self], by rw [h2, hA], hv⟩)
    refine ⟨(List.range len).map fun i => (f i).2.2, some ⟨g, o, spot⟩, cap, by simpa using hc, fun ha => ?_⟩
    rcases Nat.eq_zero_or_pos len with h0 | h0
    · subst h0; exact ⟨[], rfl, Cells.nil _ _, fun _ h => by cases h⟩
    · have hspot : spot = none := by simpa [Addr.add] using World.cell?_spot (hall 0 (by omega)).1
      subst hspot
      refine ⟨(List.range len).map f, by simp, cells_ents fun k hk => ?_, ?_⟩
      · have hk' : k < len := by simpa using hk
        obtain ⟨h1, h2, _⟩ := hf k hk'
        rw [addr_plus] at h1 h2
        simp only [List.getElem_map, List.getElem_range]
        exact ⟨h1, h2⟩
      · intro y hy
        obtain ⟨i, hi, rfl⟩ := List.mem_map.1 hy
        have hi' : i < len := by simpa using hi
        refine (hf i hi').2.2 ?_
        rw [hx] at ha
        unfold DataW.weights at ha
        rw [Tryz.underlying22] at ha
        simp only [List.all_cons, List.all_append, Bool.and_eq_true] at ha
        have h1 := weights_mem _ _ (List.mem_map.2 ⟨i, List.mem_range.2 hi', rfl⟩) ha.2.1
        unfold DataW.weights at h1
        rw [Tryz.underlying43] at h1
        simp [DataW.weightsEach, List.all_append] at h1
        simpa using h1.2
end
theorem laid_var {P : Program} {w : World} : ∀ {l : List (String × DataW Unit)} {ps : List MemPlace}, DataW.LaidVars P w l ps → ∀ n d, (n, d) ∈ l →
    ∃ g t cs fuel p, P.globalNamed n = some g ∧ (P.globals[g]?).map (·.type) = some t ∧ w.var? P n = some cs ∧ DataW.trod (fun _ => ()) P w 0 (fun _ => true) false fuel t cs.toList = some (d, p)
  | (_, _) :: _, _, ⟨g, t, cs, fuel, p, q, h1, h2, h3, h4, h5, _⟩, n, d, h => by
    rcases List.mem_cons.1 h with h | h
    · cases h; exact ⟨g, t, cs, fuel, p, h1, h2, h3, h4⟩
    · exact laid_var h5 n d h
theorem keys_laid {P : Program} {w : World} {laid : List (String × DataW Unit)} {n : String} {g t e : Nat} (h : laidMetH P laid w) (hp : (laid.all fun x => x.2.handleName?.isNone) = true) (hg : P.globalNamed n = some g) (ht : (P.globals[g]?).map (·.type) = some t)
    (hu : P.underlying t = some (.array 64 e)) (he : P.underlying e = some (.int .u32)) (hc : P.cellsOf e = 1) (hct : P.cellsOf t = 64) (hm : (n, DataW.agg (Sp.keys.map fun k => .lit (.int .u32 (wd k)))) ∈ laid) : KeysAt w g := by
  rw [Go.MakeChecks.laidMetH_plain P laid w hp] at h
  obtain ⟨ps, hl, _⟩ := h
  obtain ⟨g', t', cs, fuel, p, h1, h2, h3, h4⟩ := laid_var hl _ _ hm
  obtain rfl : g' = g := Option.some.inj (h1.symm.trans hg)
  obtain rfl : t' = t := Option.some.inj (h2.symm.trans ht)
  obtain ⟨xs, k, _, hx, hlen, hxl, hf⟩ := DataW.trod_array hu h4
  rw [hct] at hlen
  simp only [Prod.mk.injEq, DataW.agg.injEq] at hx
  intro i hi
  have hkl : Sp.keys.length = 64 := by decide
  have h5 := hf i hi
  rw [hc, Nat.mul_one] at h5
  have hci : i < cs.toList.length := by omega
  rw [List.drop_eq_getElem_cons hci, List.take_succ_cons, List.take_zero, List.getElem?_eq_getElem (by omega)] at h5
  obtain ⟨m, h6, h7, _⟩ := DataW.trod_int he h5
  simp only [List.cons.injEq, and_true] at h6
  have h8 := congrArg (fun l => l[i]?) hx.1
  simp only [List.getElem?_map, List.getElem?_eq_getElem (show i < Sp.keys.length by omega), List.getElem?_eq_getElem (show i < xs.length by omega), h7, Option.map_some, Option.some.injEq, DataW.lit.injEq, Lit.int.injEq, true_and] at h8
  unfold World.var? at h3
  rw [h1] at h3
  simp only [Option.bind_some] at h3
  unfold World.cell?
  simp only
  split at h3
  · rename_i cs' t2 x2 hh
    obtain rfl : cs' = cs := Option.some.inj h3
    rw [hh]
    simp only [List.getD_eq_getElem?_getD, List.getElem?_eq_getElem (show i < Sp.keys.length by omega), Option.getD_some]
    have : cs'[i]? = some (.int .u32 m) := by
      rw [← h6]; simp
    rw [this, ← h8]
    rfl
  · cases h3
end Go.Proofs.YtmlfnidckfeebaaGreatDoor
