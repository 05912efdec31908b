/- Deltas: what is opened, and what differs. Quotas: what a leaf uses. Quotas: what a directory uses. Quotas: the document's use of a directory. Quotas: the example of chapter 45. Deltas: the example of chapter 18; two lists that are not too much; two trees. Deltas: the example of chapter 18. Entries that come in. -/
import Derived.Deep.SlicePairs
import Derived.Carry
import Derived.WideShapes
import Derived.ChangeArms
import Derived.OpenShut
import Derived.MakeChecks
import Derived.Test.YtmlfnidckfeebaaGreatDoorP023
namespace Go.Proofs.YtmlfnidckfeebaaGreatDoor
open Go.RowKit Go.Shelf
attribute [local go_sem] yUpon strOf_toList
set_option maxRecDepth 100000 in
set_option maxHeartbeats 4000000 in
theorem dopened_calls (k : Nat) (lb : Array Value) (eg : ∀ args (w : World), (callFunc k args).run Tryz.prog w = .ok (.enter k args) w)
    (oa ob : Option Sp.T) (ma mb : List Sp.DE) (PA : Sp.Both oa ma) (PB : Sp.Both ob mb) (a b : Value) (w0 : World) (ha : TreeAt w0 a oa) (hb : TreeAt w0 b ob) (K : KeysAt w0 2) (M : MaxAt w0)
    (J : List Sp.Bs → World → Prop) (hJ : ∀ L W W', J L W → KB noT w0.heap.size W W' → J L W') (tell : Sp.Bs → List Sp.Bs) (ht : ∀ d, (tell d).length ≤ 1)
    (hcb : ∀ L d A c B c' A2 c2 B2 c2' W, Sp.Dir d → L.length ≤ 1121154893057 → Ext w0 W → J L W → Vers W A (Sp.nodeS (oa.getD .nil) d).1 → Vers W A2 (Sp.nodeS (ob.getD .nil) d).1 →
      Calls Tryz.prog k (#[.string (strOf d), nodeV A (Sp.nodeS (oa.getD .nil) d).1.length c B (Sp.nodeS (oa.getD .nil) d).2.length c', nodeV A2 (Sp.nodeS (ob.getD .nil) d).1.length c2 B2 (Sp.nodeS (ob.getD .nil) d).2.length c2'] ++ lb) W fun e W' => e = .returned (.tuple #[]) ∧ J (L ++ tell d) W' ∧ KB outT w0.heap.size W W')
    (W : World) (hE : Ext w0 W) (hL : J [] W) :
    Calls Tryz.prog 73 #[a, b, .func (.func k) #[] lb] W fun e W' => e = .returned (.tuple #[]) ∧ J ((Sp.openedT (oa.getD .nil) (ob.getD .nil)).flatMap tell) W' ∧ KB outT w0.heap.size W W' := by
  have RA := Lib.hid (troot_calls oa a W (ha.ext hE) (K.ext hE))
  have RB := Lib.hid fun W2 (e : Ext W W2) => troot_calls ob b W2 (hb.ext (hE.trans e)) (K.ext (hE.trans e))
  have PO := Lib.hid fun gp W2 (e : Ext W W2) hp => popen_calls k lb eg oa ob ma mb PA PB a b w0 ha hb K M gp J hJ tell ht hcb 5 [] (.inl rfl) (by decide) [] W2 (hE.trans e) hp (hJ _ _ _ hL (KB.ext hE.size e)) (by decide)
  have OT := Lib.hid (show Sp.openedT (oa.getD .nil) (ob.getD .nil) = if Sp.nsum (Sp.nodeT (oa.getD .nil)) = Sp.nsum (Sp.nodeT (ob.getD .nil)) then [] else Sp.openT (oa.getD .nil) (ob.getD .nil) 5 [] from rfl)
  have HJ := Lib.hid hJ
  have HL := Lib.hid hL
  have HE := Lib.hid hE
  obtain ⟨pa, rfl⟩ := tree_ptr ha
  obtain ⟨pb, rfl⟩ := tree_ptr hb
  obtain ⟨R, hR⟩ : ∃ R, R = Sp.openedT (oa.getD .nil) (ob.getD .nil) := ⟨_, rfl⟩
  rw [← hR] at OT ⊢
  obtain ⟨r1, hr1⟩ : ∃ r1, r1 = Sp.nsum (Sp.nodeT (oa.getD .nil)) := ⟨_, rfl⟩
  obtain ⟨r2, hr2⟩ : ∃ r2, r2 = Sp.nsum (Sp.nodeT (ob.getD .nil)) := ⟨_, rfl⟩
  have hqr := fun W => dig_eqv r1 r2 (by rw [hr1]; exact Sp.nsum_len _) (by rw [hr2]; exact Sp.nsum_len _) W
  have hg := dig_guard
  rw [← hr1] at RA OT
  rw [← hr2] at RB OT
  obtain ⟨O, hO⟩ : ∃ O, O = Sp.openT (oa.getD .nil) (ob.getD .nil) 5 [] := ⟨_, rfl⟩
  rw [← hO] at OT PO
  clear PA PB ha hb K M hJ hcb hR hr1 hr2 hL hE hO ht
  go_enter Tryz.func73, Tryz.ntmps73
  go_wp2_with fail
  refine RA.out.mono ?_
  rintro e w1 ⟨rfl, hb1⟩
  have E1 := Lib.hid hb1
  clear hb1 RA
  go_wp2_with fail
  refine (RB.out w1 E1.out).mono ?_
  rintro e w2 ⟨rfl, hb2⟩
  have E2 := Lib.hid (E1.out.trans hb2)
  clear hb2 RB
  by_cases hrr : r1 = r2
  · have hq := hqr
    rw [show (r1 == r2) = true by rw [hrr]; exact beq_self_eq_true _] at hq
    have OT2 := Lib.hid (show R = [] by rw [OT.out, if_pos hrr])
    clear hrr hqr OT
    go_wp2
    refine bodyPost_ret (results_none rfl _ _ _) rfl ?_
    exact ⟨rfl, by rw [OT2.out]; exact HJ.out _ _ _ HL.out (KB.ext HE.out.size E2.out), KB.ext HE.out.size E2.out⟩
  · have hq := hqr
    rw [show (r1 == r2) = false by rw [beq_eq_false_iff_ne]; exact hrr] at hq
    have OT2 := Lib.hid (show R = O by rw [OT.out, if_neg hrr])
    clear hrr hqr OT
    have tok1 : True := trivial
    go_wp2_with (have _t := tok1; ((with_reducible refine at_box (t := 197) rfl ?_); refine box_new rfl (cs := #[.pointer pa, .pointer pb, .func (.func k) #[] lb]) (t := 197) (by first | (go_simp; done) | (go_simp; rfl)) ?_; intro g3 w3 hg3 hx3 hb3; have X3 := Lib.hid hx3; have B3 := Lib.hid (show Ext w2 w3 from hb3); clear tok1 _t hx3 hb3 hg3))
    refine (PO.out g3 w3 (E2.out.trans B3.out) X3.out).mono ?_
    rintro e w4 ⟨rfl, hj4, hk4⟩
    have J4 := Lib.hid hj4
    have K4 := Lib.hid hk4
    clear hj4 hk4 PO
    go_wp2
    go_end0
    exact ⟨rfl, by rw [OT2.out]; exact J4.out, (KB.ext HE.out.size (E2.out.trans B3.out)).trans K4.out⟩
theorem outvar_new (w : World) : OutVar w.heap.size w.heap.size [] (w.alloc (.cells #[.slice none 0 0] 32)) := ⟨Nat.le_refl _, _, box_at w _ _, World.ownsRow_nil _ _ _ _⟩
set_option maxRecDepth 100000 in
set_option maxHeartbeats 4000000 in
theorem Opened_calls (oa ob : Option Sp.T) (ma mb : List Sp.DE) (PA : Sp.Both oa ma) (PB : Sp.Both ob mb) (a b : Value) (w : World) (ha : TreeAt w a oa) (hb : TreeAt w b ob) (K : KeysAt w 2) (M : MaxAt w) :
    Calls Tryz.prog 20 #[a, b] w fun e w' => ∃ v, e = .returned v ∧ w'.ownsRow w.heap.size 9 1 v (Sp.openedT (oa.getD .nil) (ob.getD .nil)).length (strsC (Sp.openedT (oa.getD .nil) (ob.getD .nil))) ∧ Ext w w' := by
  have DO := Lib.hid fun W (e : Ext w W) (h : OutVar w.heap.size w.heap.size [] W) => dopened_calls 74 #[.pointer (some ⟨w.heap.size, 0, none⟩)] (enters_of Tryz.func74 (by kernel_rfl) rfl) oa ob ma mb PA PB a b w ha hb K M (OutVar w.heap.size w.heap.size) (fun L W W' h k => h.keep k) (fun d => [d]) (fun _ => Nat.le_refl _)
    (fun L d A c B c' A2 c2 B2 c2' W hd hl hE hj _ _ => told_open w.heap.size w.heap.size L d A A2 B B2 _ c _ c' _ c2 _ c2' W hj hE.size hl) W e h
  obtain ⟨pa, rfl⟩ := tree_ptr ha
  obtain ⟨pb, rfl⟩ := tree_ptr hb
  have FM : (Sp.openedT (oa.getD .nil) (ob.getD .nil)).flatMap (fun d => [d]) = Sp.openedT (oa.getD .nil) (ob.getD .nil) := by simp
  rw [FM] at DO
  obtain ⟨R, hR⟩ : ∃ R, R = Sp.openedT (oa.getD .nil) (ob.getD .nil) := ⟨_, rfl⟩
  rw [← hR] at DO ⊢
  have hmf : ∀ (fn : Fn) (first cap : Array Value) (w : World), (Instr.makeFunc fn first cap).run Tryz.prog w = .ok (.func fn first cap) w := fun _ _ _ _ => rfl
  clear PA PB ha hb K M FM hR
  go_enter Tryz.func20, Tryz.ntmps20
  go_upto_region 2 with fail
  obtain ⟨w1, hw1⟩ : ∃ w1, w1 = w.alloc (.cells #[.slice none 0 0] 32) := ⟨_, rfl⟩
  have J1 := Lib.hid (show OutVar w.heap.size w.heap.size [] w1 by rw [hw1]; exact outvar_new w)
  have E1 := Lib.hid (show Ext w w1 by rw [hw1]; exact Ext.alloc _ _)
  rw [← hw1]
  clear hw1
  go_wp2_with fail
  refine (DO.out w1 E1.out J1.out).mono ?_
  rintro e w2 ⟨rfl, ⟨_, v, hx, ho⟩, hk⟩
  have X2 := Lib.hid hx
  have O2 := Lib.hid ho
  have E2 := Lib.hid (show Ext w w2 from E1.out.trans' hk.below)
  have f0 := (X2.out.cell 0).trans rfl
  clear hx ho hk DO
  go_wp2
  go_ret
  exact ⟨v, rfl, O2.out, E2.out⟩
set_option maxRecDepth 100000 in
set_option maxHeartbeats 4000000 in
theorem Differ_calls (oa ob : Option Sp.T) (ma mb : List Sp.DE) (PA : Sp.Both oa ma) (PB : Sp.Both ob mb) (a b : Value) (w : World) (ha : TreeAt w a oa) (hb : TreeAt w b ob) (K : KeysAt w 2) (M : MaxAt w) :
    Calls Tryz.prog 22 #[a, b] w fun e w' => ∃ v, e = .returned v ∧ w'.ownsRow w.heap.size 9 1 v (Sp.differT (oa.getD .nil) (ob.getD .nil)).length (strsC (Sp.differT (oa.getD .nil) (ob.getD .nil))) ∧ Ext w w' := by
  have DO := Lib.hid fun W (e : Ext w W) (h : OutVar w.heap.size w.heap.size [] W) => dopened_calls 76 #[.pointer (some ⟨w.heap.size, 0, none⟩)] (enters_of Tryz.func76 (by kernel_rfl) rfl) oa ob ma mb PA PB a b w ha hb K M (OutVar w.heap.size w.heap.size) (fun L W W' h k => h.keep k) (fun d => if (!decide ((Sp.nodeS (oa.getD .nil) d).1 = (Sp.nodeS (ob.getD .nil) d).1)) = true then [d] else []) (fun _ => by split <;> simp)
    (fun L d A c B c' A2 c2 B2 c2' W hd hl hE hj hv hv2 => told_diff w.heap.size w.heap.size L d _ _ A A2 B B2 c _ c' c2 _ c2' W hj hE.size hl hv hv2 (Sp.node_leafs PA.go hd)) W e h
  obtain ⟨pa, rfl⟩ := tree_ptr ha
  obtain ⟨pb, rfl⟩ := tree_ptr hb
  have FM : (Sp.openedT (oa.getD .nil) (ob.getD .nil)).flatMap (fun d => if (!decide ((Sp.nodeS (oa.getD .nil) d).1 = (Sp.nodeS (ob.getD .nil) d).1)) = true then [d] else []) = Sp.differT (oa.getD .nil) (ob.getD .nil) := by
    unfold Sp.differT Sp.leafdiff
    generalize Sp.openedT (oa.getD .nil) (ob.getD .nil) = l
    induction l with
    | nil => rfl
    | cons x r ih =>
      rw [List.flatMap_cons, ih]
      by_cases h : (Sp.nodeS (oa.getD .nil) x).1 = (Sp.nodeS (ob.getD .nil) x).1 <;> simp [h]
  rw [FM] at DO
  obtain ⟨R, hR⟩ : ∃ R, R = Sp.differT (oa.getD .nil) (ob.getD .nil) := ⟨_, rfl⟩
  rw [← hR] at DO ⊢
  have hmf : ∀ (fn : Fn) (first cap : Array Value) (w : World), (Instr.makeFunc fn first cap).run Tryz.prog w = .ok (.func fn first cap) w := fun _ _ _ _ => rfl
  clear PA PB ha hb K M FM hR
  go_enter Tryz.func22, Tryz.ntmps22
  go_upto_region 2 with fail
  obtain ⟨w1, hw1⟩ : ∃ w1, w1 = w.alloc (.cells #[.slice none 0 0] 32) := ⟨_, rfl⟩
  have J1 := Lib.hid (show OutVar w.heap.size w.heap.size [] w1 by rw [hw1]; exact outvar_new w)
  have E1 := Lib.hid (show Ext w w1 by rw [hw1]; exact Ext.alloc _ _)
  rw [← hw1]
  clear hw1
  go_wp2_with fail
  refine (DO.out w1 E1.out J1.out).mono ?_
  rintro e w2 ⟨rfl, ⟨_, v, hx, ho⟩, hk⟩
  have X2 := Lib.hid hx
  have O2 := Lib.hid ho
  have E2 := Lib.hid (show Ext w w2 from E1.out.trans' hk.below)
  have f0 := (X2.out.cell 0).trans rfl
  clear hx ho hk DO
  go_wp2
  go_ret
  exact ⟨v, rfl, O2.out, E2.out⟩
end Go.Proofs.YtmlfnidckfeebaaGreatDoor
namespace Go.Proofs.YtmlfnidckfeebaaGreatDoor
open Go.RowKit Go.Shelf
attribute [local go_sem] yUpon strOf_toList
namespace Sp
/-- Files, bytes, sides, dead ones. -/
abbrev Use := Nat × Nat × Nat × Nat
end Sp
def useC (u : Sp.Use) : Array Value := #[.int .i64 u.1, .int .i64 u.2.1, .int .i64 u.2.2.1, .int .i64 u.2.2.2]
namespace Sp
/-- No use is so much that a sum of so many would not fit. -/
def Small (n : Nat) (u : Use) : Prop := u.1 ≤ n ∧ u.2.1 ≤ n ∧ u.2.2.1 ≤ n ∧ u.2.2.2 ≤ n
end Sp
def usesC : List Sp.Use → List Value
  | [] => []
  | u :: r => (useC u).toList ++ usesC r
theorem usesC_len : ∀ l, (usesC l).length = l.length * 4
  | [] => rfl
  | u :: r => by rw [usesC, List.length_append, usesC_len r, List.length_cons]; simp [useC]; omega
theorem usesC_get : ∀ (l : List Sp.Use) (k j : Nat) (h : k < l.length), j < 4 → (usesC l)[k * 4 + j]? = (useC l[k])[j]?
  | u :: r, 0, j, h, hj => by
    rw [usesC, Nat.zero_mul, Nat.zero_add, List.getElem?_append_left (by simpa [useC] using hj)]
    simp
  | u :: r, k + 1, j, h, hj => by
    have := usesC_get r k j (by simpa using h) hj
    rw [usesC, List.getElem?_append_right (by simp [useC]; omega)]
    simp only [Array.length_toList, List.getElem_cons_succ]
    rw [← this]
    congr 1
    simp [useC]; omega
def Uses (w : World) (A : Option Addr) (l : List Sp.Use) : Prop := Cells w A (usesC l)
theorem Uses.ext {w w' : World} {A : Option Addr} {l : List Sp.Use} (h : Uses w A l) (e : Ext w w') : Uses w' A l := Cells.ext h e
theorem Uses.at {w : World} {A : Option Addr} {l : List Sp.Use} (h : Uses w A l) (hn : 0 < l.length) : ∃ g o, A = some ⟨g, o, none⟩ ∧ ∀ k (h : k < l.length), w.cell? ⟨g, o + k * 4, none⟩ = some (.int .i64 l[k].1) ∧ w.cell? ⟨g, o + k * 4 + 1, none⟩ = some (.int .i64 l[k].2.1) ∧ w.cell? ⟨g, o + k * 4 + 2, none⟩ = some (.int .i64 l[k].2.2.1) ∧ w.cell? ⟨g, o + k * 4 + 3, none⟩ = some (.int .i64 l[k].2.2.2) := by
  obtain ⟨g, o, hA, hc⟩ := h (by
    intro e
    have := usesC_len l
    rw [e] at this
    simp at this
    omega)
  refine ⟨g, o, hA, fun k hk => ⟨?_, ?_, ?_, ?_⟩⟩
  · exact hc _ _ (usesC_get l k 0 hk (by decide))
  · exact hc _ _ (usesC_get l k 1 hk (by decide))
  · exact hc _ _ (usesC_get l k 2 hk (by decide))
  · exact hc _ _ (usesC_get l k 3 hk (by decide))
end Go.Proofs.YtmlfnidckfeebaaGreatDoor
namespace Go.Proofs.YtmlfnidckfeebaaGreatDoor
open Go.RowKit Go.Shelf
attribute [local go_sem] yUpon strOf_toList
namespace Sp
theorem Small.mono {n m : Nat} {u : Use} (h : Small n u) (hn : n ≤ m) : Small m u := ⟨Nat.le_trans h.1 hn, Nat.le_trans h.2.1 hn, Nat.le_trans h.2.2.1 hn, Nat.le_trans h.2.2.2 hn⟩
end Sp
end Go.Proofs.YtmlfnidckfeebaaGreatDoor
namespace Go.Proofs.YtmlfnidckfeebaaGreatDoor
open Go.RowKit Go.Shelf
attribute [local go_sem] yUpon strOf_toList
namespace Sp
end Sp
theorem Only.cell {g k i : Nat} {u : Value} {w w' : World} (h : Only g w w') (hn : k ≠ g) (c : w.cell? ⟨k, i, none⟩ = some u) : w'.cell? ⟨k, i, none⟩ = some u :=
  (World.cell?_of_block (h.block k (World.block_lt_of_cell? w _ c) hn)).trans c
namespace Sp
end Sp
end Go.Proofs.YtmlfnidckfeebaaGreatDoor
namespace Go.Proofs.YtmlfnidckfeebaaGreatDoor
open Go.RowKit Go.Shelf
attribute [local go_sem] yUpon strOf_toList
namespace Sp
end Sp
theorem bslice_two {P : Program} {ops : Array Oper} {rest : List Oper} {o : Oper} {a : Act} {w : World} {Q : Exit → Act → World → Prop} (hg : o.guard = none) (t e : TypeId) (x y : Operand) (ho : o.op = .buildSlice t 2 #[(0, x), (1, y)]) {size bytes : Nat} (hst : AppStat P t e size bytes) (hs : size ≤ 1000)
    (c0 c1 : Array Value) (hx : (a.eval x).cells = c0) (hy : (a.eval y).cells = c1) (h0 : c0.size = size) (h1 : c1.size = size)
    (h : wpList P ops Q rest (a.put o.dst (.slice (some ⟨w.heap.size, 0, none⟩) 2 2)) (w.alloc (.cells (c0.toList ++ c1.toList).toArray e))) : wpList P ops Q (o :: rest) a w := by
  obtain ⟨hu, hz0, _, i, zz, hi, hz, hsz, _, hzs⟩ := hst
  refine wpList_buildSlice hg t e 2 #[(0, x), (1, y)] ho (c0.toList ++ c1.toList).toArray i zz hu hi hz (by rw [hsz]; omega) (by rw [hsz]; omega) ?_ h
  have := Great.fill_whole (s := i.size) (by omega) [a.eval x, a.eval y] ((Array.range (2 * i.size)).map (zz.cells[· % zz.cells.size]!)) (by
    intro v hv
    simp only [List.mem_cons, List.not_mem_nil, or_false] at hv
    rcases hv with rfl | rfl
    · rw [hx, h0, hsz]
    · rw [hy, h1, hsz]) (by simp)
  simpa [hx, hy] using this
end Go.Proofs.YtmlfnidckfeebaaGreatDoor
namespace Go.Proofs.YtmlfnidckfeebaaGreatDoor
open Go.RowKit Go.Shelf
attribute [local go_sem] yUpon strOf_toList
namespace Sp
def e18V : Ver := ⟨(1, 1), [], false, []⟩
def e18L : T := .mk [e18V] []
def e18A : T := .mk [] [([120], e18L)]
def e18B : T := .mk [] [([121], e18L)]
def e18S : T := .mk [] [([97], e18A), ([98], e18L)]
def e18T : T := .mk [] [([97], e18B), ([98], e18L)]
def e18X : List DE := [([97, 47, 120], [e18V]), ([98], [e18V])]
def e18Y : List DE := [([98], [e18V]), ([97, 47, 121], [e18V])]
theorem e18_ofX : ofT none e18X = (some e18S, 0) := by kernel_rfl
theorem e18_ofY : ofT none e18Y = (some e18T, 0) := by kernel_rfl
theorem e18_dirs : nsum (nodeT e18A) ≠ nsum (nodeT e18B) := by decide +kernel
theorem e18_roots : nsum (nodeT e18S) ≠ nsum (nodeT e18T) := by decide +kernel
theorem e18_open : openedT e18S e18T = [[], [97], [97, 47, 120], [97, 47, 121]] := by
  obtain ⟨x, hx⟩ : ∃ x, x = nsum (nodeT e18A) := ⟨_, rfl⟩
  obtain ⟨y, hy⟩ : ∃ y, y = nsum (nodeT e18B) := ⟨_, rfl⟩
  obtain ⟨z, hz⟩ : ∃ z, z = nsum (nodeT e18L) := ⟨_, rfl⟩
  have hxy : (x != y) = true := by rw [hx, hy]; simpa using e18_dirs
  have a0 : nodeS e18S [] = ([], [([97], x), ([98], z)]) := by rw [hx, hz]; rfl
  have b0 : nodeS e18T [] = ([], [([97], y), ([98], z)]) := by rw [hy, hz]; rfl
  have a1 : nodeS e18S [97] = ([], [([120], z)]) := by rw [hz]; rfl
  have b1 : nodeS e18T [97] = ([], [([121], z)]) := by rw [hz]; rfl
  have a2 : nodeS e18S [97, 47, 120] = ([e18V], []) := by rfl
  have b2 : nodeS e18T [97, 47, 120] = ([], []) := by rfl
  have a3 : nodeS e18S [97, 47, 121] = ([], []) := by rfl
  have b3 : nodeS e18T [97, 47, 121] = ([e18V], []) := by rfl
  have k0 : kids2 [([97], x), ([98], z)] [([97], y), ([98], z)] = [([97], true, true, x, y), ([98], true, true, z, z)] := by
    rw [kids2, if_neg (by show ¬ Op.bytesLess [97] [97] = true; decide), if_neg (by show ¬ Op.bytesLess [97] [97] = true; decide), kids2, if_neg (by show ¬ Op.bytesLess [98] [98] = true; decide), if_neg (by show ¬ Op.bytesLess [98] [98] = true; decide), kids2]
  have k1 : kids2 [([120], z)] [([121], z)] = [([120], true, false, z, z32), ([121], false, true, z32, z)] := by
    rw [kids2, if_pos (by show Op.bytesLess [120] [121] = true; decide), kids2, kids2]
  have k2 : kids2 [] [] = [] := by rw [kids2]
  have d1 : down [] [97] = [97] := rfl
  have d2 : down [97] [120] = [97, 47, 120] := rfl
  have d3 : down [97] [121] = [97, 47, 121] := rfl
  unfold openedT
  rw [if_neg e18_roots]
  simp [openT, a0, b0, a1, b1, a2, b2, a3, b3, k0, k1, k2, d1, d2, d3, differ2, hxy]
theorem e18_differ : differT e18S e18T = [[97, 47, 120], [97, 47, 121]] := by
  unfold differT
  rw [e18_open]
  have h0 : leafdiff e18S e18T [] = false := by rfl
  have h1 : leafdiff e18S e18T [97] = false := by rfl
  have h2 : leafdiff e18S e18T [97, 47, 120] = true := by rfl
  have h3 : leafdiff e18S e18T [97, 47, 121] = true := by rfl
  simp [h0, h1, h2, h3]
theorem opened_self (t : T) : openedT t t = [] := by unfold openedT; rw [if_pos rfl]
end Sp
theorem vers_e18 {w : World} {g : Nat} {t : TypeId} (v : Sp.Ver) (hv : v.past = []) (h : isBlk w g t (verC none 0 v)) : Vers w (some ⟨g, 0, none⟩) [v] :=
  ⟨[(none, 0, v)], rfl, fun _ => ⟨g, 0, rfl, fun i u hi => by
    rw [Nat.zero_add, h.cell i]
    have : (verC none 0 v).toList ++ [] = (verC none 0 v).toList := List.append_nil _
    rw [versC, versC, this] at hi
    simpa using hi⟩, fun x hx => by
    obtain rfl := List.mem_singleton.1 hx
    exact ⟨by rw [hv]; exact Cells.nil _ _, by rw [hv]; exact Nat.zero_le _⟩⟩
theorem ents_two {w : World} {g gv : Nat} {p q : Sp.Bs} {v : Sp.Ver} (h : isBlk w g 43 #[.string (strOf p), .slice (some ⟨gv, 0, none⟩) 1 1, .string (strOf q), .slice (some ⟨gv, 0, none⟩) 1 1]) (hv : Vers w (some ⟨gv, 0, none⟩) [v]) : EntsAt w (some ⟨g, 0, none⟩) [(p, [v]), (q, [v])] :=
  ⟨[(some ⟨gv, 0, none⟩, 1, (p, [v])), (some ⟨gv, 0, none⟩, 1, (q, [v]))], rfl, fun _ => ⟨g, 0, rfl, fun i u hi => by
    rw [Nat.zero_add, h.cell i]
    rw [show entsC [(some (⟨gv, 0, none⟩ : Addr), 1, ((p, [v]) : Sp.DE)), (some ⟨gv, 0, none⟩, 1, (q, [v]))] = [.string (strOf p), .slice (some ⟨gv, 0, none⟩) 1 1, .string (strOf q), .slice (some ⟨gv, 0, none⟩) 1 1] from rfl] at hi
    simpa using hi⟩, fun x hx => by
    simp only [List.mem_cons, List.not_mem_nil, or_false] at hx
    rcases hx with rfl | rfl <;> exact hv⟩
theorem nams_blk {w : World} {g : Nat} {t : TypeId} {l : List Sp.Bs} (h : isBlk w g t (strsC l).toArray) : Nams w (some ⟨g, 0, none⟩) l := fun _ => ⟨g, 0, rfl, fun i u hi => by
  rw [Nat.zero_add, h.cell i]
  simpa using hi⟩
theorem bslice_four {P : Program} {ops : Array Oper} {rest : List Oper} {o : Oper} {a : Act} {w : World} {Q : Exit → Act → World → Prop} (hg : o.guard = none) (t e : TypeId) (x y z u : Operand) (ho : o.op = .buildSlice t 4 #[(0, x), (1, y), (2, z), (3, u)]) {size bytes : Nat} (hst : AppStat P t e size bytes) (hs : size ≤ 1000)
    (c0 c1 c2 c3 : Array Value) (hx : (a.eval x).cells = c0) (hy : (a.eval y).cells = c1) (hz' : (a.eval z).cells = c2) (hu' : (a.eval u).cells = c3) (h0 : c0.size = size) (h1 : c1.size = size) (h2 : c2.size = size) (h3 : c3.size = size)
    (h : wpList P ops Q rest (a.put o.dst (.slice (some ⟨w.heap.size, 0, none⟩) 4 4)) (w.alloc (.cells (c0.toList ++ (c1.toList ++ (c2.toList ++ c3.toList))).toArray e))) : wpList P ops Q (o :: rest) a w := by
  obtain ⟨hu, hz0, _, i, zz, hi, hz, hsz, _, hzs⟩ := hst
  refine wpList_buildSlice hg t e 4 #[(0, x), (1, y), (2, z), (3, u)] ho (c0.toList ++ (c1.toList ++ (c2.toList ++ c3.toList))).toArray i zz hu hi hz (by rw [hsz]; omega) (by rw [hsz]; omega) ?_ h
  have := Great.fill_whole (s := i.size) (by omega) [a.eval x, a.eval y, a.eval z, a.eval u] ((Array.range (4 * i.size)).map (zz.cells[· % zz.cells.size]!)) (by
    intro v hv
    simp only [List.mem_cons, List.not_mem_nil, or_false] at hv
    rcases hv with rfl | rfl | rfl | rfl
    · rw [hx, h0, hsz]
    · rw [hy, h1, hsz]
    · rw [hz', h2, hsz]
    · rw [hu', h3, hsz]) (by simp)
  simpa [hx, hy, hz', hu'] using this
set_option maxRecDepth 100000 in
theorem great18_calls (l m : List Sp.DE) (A B : Option Addr) (c c' : Nat) (w : World) (h : EntsAt w A l) (h' : EntsAt w B m) :
    Calls Tryz.prog 15 #[.slice A l.length c, .slice B m.length c'] w fun e w' => ∃ b : Bool, e = .returned (.bool b) ∧ (b = false → (l.length ≤ 12 ∧ ∀ e ∈ l, e.1.length ≤ 200) ∧ m.length ≤ 12 ∧ ∀ e ∈ m, e.1.length ≤ 200) ∧ Ext w w' := by
  have HH := Lib.hid h
  have HH' := Lib.hid h'
  clear h h'
  go_enter Tryz.func15, Tryz.ntmps15
  go_wp2_with fail
  refine (great15_calls l A c 12 w HH.out (by decide)).mono ?_
  rintro e w1 ⟨b, rfl, hgr, hb1⟩
  have E1 := Lib.hid (show Ext w w1 from hb1)
  have G1 := Lib.hid hgr
  clear hgr hb1
  cases b with
  | true =>
    go_wp2
    go_ret
    exact ⟨true, rfl, (fun h => by cases h), E1.out⟩
  | false =>
    go_wp2_with fail
    refine (great15_calls m B c' 12 w1 (HH'.out.ext E1.out) (by decide)).mono ?_
    rintro e w2 ⟨b, rfl, hgr, hb2⟩
    have E2 := Lib.hid (show Ext w w2 from E1.out.trans hb2)
    have G2 := Lib.hid hgr
    clear hgr hb2
    go_wp2
    go_ret
    exact ⟨b, rfl, fun h => ⟨G1.out (by first | rfl | trivial), G2.out h⟩, E2.out⟩
set_option maxRecDepth 100000 in
set_option maxHeartbeats 2000000 in
theorem both18_calls (la lb : List Sp.DE) (A B : Option Addr) (c c' : Nat) (w : World) (h : EntsAt w A la) (h' : EntsAt w B lb) (hl : la.length ≤ 12) (hl' : lb.length ≤ 12) (K : KeysAt w 2) (M : MaxAt w) :
    Calls Tryz.prog 17 #[.slice A la.length c, .slice B lb.length c'] w fun e w' => ∃ pa pb, e = .returned (.tuple #[.pointer pa, .pointer pb, .bool (decide ((Sp.ofT none la).2 = 0) && decide ((Sp.ofT none lb).2 = 0))]) ∧ TreeAt w' (.pointer pa) (Sp.ofT none la).1 ∧ TreeAt w' (.pointer pb) (Sp.ofT none lb).1 ∧ Ext w w' := by
  have OA := Lib.hid (of_calls la A c w h (by omega) K M)
  have OB := Lib.hid fun W (e : Ext w W) => of_calls lb B c' W (h'.ext e) (by omega) (K.ext e) (max_kept M e)
  clear h h' K M
  obtain ⟨bb, hbb⟩ : ∃ bb, bb = (decide ((Sp.ofT none la).2 = 0) && decide ((Sp.ofT none lb).2 = 0)) := ⟨_, rfl⟩
  rw [← hbb]
  obtain ⟨ca, hca⟩ : ∃ ca, ca = (Sp.ofT none la).2 := ⟨_, rfl⟩
  obtain ⟨cb, hcb⟩ : ∃ cb, cb = (Sp.ofT none lb).2 := ⟨_, rfl⟩
  rw [← hca] at OA hbb
  rw [← hcb] at OB hbb
  have BB := Lib.hid hbb
  clear hca hcb hbb
  go_enter Tryz.func17, Tryz.ntmps17
  go_wp2_with fail
  refine OA.out.mono ?_
  rintro e w1 ⟨v1, rfl, ht1, hb1⟩
  obtain ⟨pa, rfl⟩ := tree_ptr ht1
  have T1 := Lib.hid ht1
  have E1 := Lib.hid hb1
  clear ht1 hb1 OA
  go_wp2_with fail
  refine (OB.out w1 E1.out).mono ?_
  rintro e w2 ⟨v2, rfl, ht2, hb2⟩
  obtain ⟨pb, rfl⟩ := tree_ptr ht2
  have TB := Lib.hid ht2
  have TA := Lib.hid (T1.out.ext hb2)
  have E2 := Lib.hid (E1.out.trans hb2)
  clear ht2 hb2 OB T1
  by_cases h1 : ca = 0
  · by_cases h2 : cb = 0
    · have D := Lib.hid (show bb = true by rw [BB.out, h1, h2]; rfl)
      clear BB
      subst h1 h2
      go_wp2
      go_ret3
      exact ⟨pa, pb, by rw [D.out]; rfl, TA.out, TB.out, E2.out⟩
    · have D := Lib.hid (show bb = false by rw [BB.out, decide_eq_false h2, Bool.and_false])
      subst h1
      have q2 : (cb == 0) = false := by rw [beq_eq_false_iff_ne]; exact h2
      clear BB h2
      go_wp2
      go_ret3
      exact ⟨pa, pb, by rw [D.out]; rfl, TA.out, TB.out, E2.out⟩
  · have q1 : (ca == 0) = false := by rw [beq_eq_false_iff_ne]; exact h1
    have D := Lib.hid (show bb = false by rw [BB.out, decide_eq_false h1, Bool.false_and])
    clear BB h1
    go_wp2
    go_ret3
    exact ⟨pa, pb, by rw [D.out]; rfl, TA.out, TB.out, E2.out⟩
end Go.Proofs.YtmlfnidckfeebaaGreatDoor
namespace Go.Proofs.YtmlfnidckfeebaaGreatDoor
open Go.RowKit Go.Shelf
attribute [local go_sem] yUpon strOf_toList
/-- An operation behind a guard that holds. -/
theorem wpList_unguard {P : Program} {ops : Array Oper} {rest : List Oper} {o : Oper} {a : Act} {w : World} {Q : Exit → Act → World → Prop} (hw : Region.wanted o (yielded ops a.tmps) = true)
    (h : wpList P ops Q ({ o with guard := none } :: rest) a w) : wpList P ops Q (o :: rest) a w := by
  unfold wpList at h ⊢
  rw [if_pos hw]
  rw [if_pos (by simp [Region.wanted])] at h
  exact h
set_option maxRecDepth 100000 in
set_option maxHeartbeats 8000000 in
theorem awake18_calls (w : World) (K : KeysAt w 2) (M : MaxAt w) :
    Calls Tryz.prog 16 #[] w fun e w' => e = .returned (.bool true) ∧ Ext w w' := by
  have KK := Lib.hid K
  have MM := Lib.hid M
  have tok : True := trivial
  have tokE : True := trivial
  clear K M
  go_enter Tryz.func16, Tryz.ntmps16
  go_wp2_with (first
    | (have _t := tok; (with_reducible refine at_bslice rfl ?_); refine bslice_new rfl 41 71 _ rfl appVer (by decide) (verC none 0 Sp.e18V) rfl rfl ?_; intro gv wv hgv hxv hbv; have XV := Lib.hid hxv; have BV := Lib.hid hbv; clear tok _t hgv hxv hbv)
    | (have _t := tokE; (with_reducible refine at_bslice rfl ?_); refine bslice_two rfl 22 43 _ _ rfl appEnt (by decide) #[.string (strOf [97, 47, 120]), .slice (some ⟨gv, 0, none⟩) 1 1] #[.string (strOf [98]), .slice (some ⟨gv, 0, none⟩) 1 1] rfl rfl rfl rfl ?_; clear tokE _t))
  obtain ⟨w1, hw1⟩ : ∃ w1, w1 = wv.alloc (.cells #[.string (strOf [97, 47, 120]), .slice (some ⟨gv, 0, none⟩) 1 1, .string (strOf [98]), .slice (some ⟨gv, 0, none⟩) 1 1] 43) := ⟨_, rfl⟩
  have X1 := (show isBlk w1 wv.heap.size 43 #[.string (strOf [97, 47, 120]), .slice (some ⟨gv, 0, none⟩) 1 1, .string (strOf [98]), .slice (some ⟨gv, 0, none⟩) 1 1] by rw [hw1]; exact box_at wv _ _)
  have E1 := Lib.hid (show Ext wv w1 by rw [hw1]; exact Ext.alloc _ _)
  have V1 := Lib.hid (vers_e18 Sp.e18V rfl (XV.out.below E1.out))
  have HE := ents_two X1 V1.out
  have B1 := Lib.hid (BV.out.trans E1.out)
  rw [← hw1]
  have OC := Lib.hid (of_calls Sp.e18X (some ⟨wv.heap.size, 0, none⟩) 2 w1 HE (by decide) (KK.out.ext B1.out) (max_kept MM.out B1.out))
  rw [Sp.e18_ofX] at OC
  have tokF : True := trivial
  clear hw1 X1 HE
  refine OC.out.mono ?_
  rintro e w2 ⟨v2, rfl, ht2, hb2⟩
  obtain ⟨pa, rfl⟩ := tree_ptr ht2
  have T2 := Lib.hid ht2
  have V2 := Lib.hid (V1.out.ext hb2)
  have B2 := Lib.hid (B1.out.trans hb2)
  clear ht2 hb2 OC V1
  go_wp2_with (have _t := tokF; (with_reducible refine at_bslice rfl ?_); refine bslice_two rfl 22 43 _ _ rfl appEnt (by decide) #[.string (strOf [98]), .slice (some ⟨gv, 0, none⟩) 1 1] #[.string (strOf [97, 47, 121]), .slice (some ⟨gv, 0, none⟩) 1 1] rfl rfl rfl rfl ?_; clear tokF _t)
  obtain ⟨w3, hw3⟩ : ∃ w3, w3 = w2.alloc (.cells #[.string (strOf [98]), .slice (some ⟨gv, 0, none⟩) 1 1, .string (strOf [97, 47, 121]), .slice (some ⟨gv, 0, none⟩) 1 1] 43) := ⟨_, rfl⟩
  have X3 := (show isBlk w3 w2.heap.size 43 #[.string (strOf [98]), .slice (some ⟨gv, 0, none⟩) 1 1, .string (strOf [97, 47, 121]), .slice (some ⟨gv, 0, none⟩) 1 1] by rw [hw3]; exact box_at w2 _ _)
  have E3 := Lib.hid (show Ext w2 w3 by rw [hw3]; exact Ext.alloc _ _)
  have HE := ents_two X3 (V2.out.ext E3.out)
  have B3 := Lib.hid (B2.out.trans E3.out)
  rw [← hw3]
  have OC := Lib.hid (of_calls Sp.e18Y (some ⟨w2.heap.size, 0, none⟩) 2 w3 HE (by decide) (KK.out.ext B3.out) (max_kept MM.out B3.out))
  rw [Sp.e18_ofY] at OC
  clear hw3 X3 HE
  refine OC.out.mono ?_
  rintro e w4 ⟨v4, rfl, ht4, hb4⟩
  obtain ⟨pb, rfl⟩ := tree_ptr ht4
  have TB := Lib.hid ht4
  have TA := Lib.hid (T2.out.ext (E3.out.trans hb4))
  have B4 := Lib.hid (B3.out.trans hb4)
  clear ht4 hb4 OC V2
  have PA := Lib.hid (Sp.both_of Sp.e18X)
  have PB := Lib.hid (Sp.both_of Sp.e18Y)
  rw [Sp.e18_ofX] at PA
  rw [Sp.e18_ofY] at PB
  obtain ⟨ma, hma⟩ : ∃ ma, ma = (Sp.rof [] Sp.e18X).1 := ⟨_, rfl⟩
  obtain ⟨mb, hmb⟩ : ∃ mb, mb = (Sp.rof [] Sp.e18Y).1 := ⟨_, rfl⟩
  rw [← hma] at PA
  rw [← hmb] at PB
  have D1 := Lib.hid fun W (e : Ext w4 W) => Opened_calls (some Sp.e18S) (some Sp.e18T) ma mb PA.out PB.out (.pointer pa) (.pointer pb) W (TA.out.ext e) (TB.out.ext e) (KK.out.ext (B4.out.trans e)) (max_kept MM.out (B4.out.trans e))
  have D2 := Lib.hid fun W (e : Ext w4 W) => Differ_calls (some Sp.e18S) (some Sp.e18T) ma mb PA.out PB.out (.pointer pa) (.pointer pb) W (TA.out.ext e) (TB.out.ext e) (KK.out.ext (B4.out.trans e)) (max_kept MM.out (B4.out.trans e))
  have D3 := Lib.hid fun W (e : Ext w4 W) => Opened_calls (some Sp.e18S) (some Sp.e18S) ma ma PA.out PA.out (.pointer pa) (.pointer pa) W (TA.out.ext e) (TA.out.ext e) (KK.out.ext (B4.out.trans e)) (max_kept MM.out (B4.out.trans e))
  simp only [Option.getD_some] at D1 D2 D3
  rw [Sp.e18_open] at D1
  rw [Sp.e18_differ] at D2
  rw [Sp.opened_self] at D3
  clear hma hmb PA PB TA TB T2
  have tok4 : True := trivial
  go_wp2_with fail
  refine (D1.out w4 (Ext.refl _)).mono ?_
  rintro e w5 ⟨v5, rfl, hO5, hb5⟩
  obtain ⟨A5, c5, rfl, hc5⟩ := own_read hO5
  have N5 := Lib.hid (show Nams w5 A5 [[], [97], [97, 47, 120], [97, 47, 121]] from hc5)
  have B5 := Lib.hid hb5
  clear hO5 hc5 hb5 D1
  go_wp2_with (have _t := tok4; (with_reducible refine at_bslice rfl ?_); refine bslice_four rfl 32 9 _ _ _ _ rfl appStr (by decide) #[.string (strOf [])] #[.string (strOf [97])] #[.string (strOf [97, 47, 120])] #[.string (strOf [97, 47, 121])] rfl rfl rfl rfl rfl rfl rfl rfl ?_; clear tok4 _t)
  obtain ⟨w6, hw6⟩ : ∃ w6, w6 = w5.alloc (.cells #[.string (strOf []), .string (strOf [97]), .string (strOf [97, 47, 120]), .string (strOf [97, 47, 121])] 9) := ⟨_, rfl⟩
  have N6 := Lib.hid (show Nams w6 (some ⟨w5.heap.size, 0, none⟩) [[], [97], [97, 47, 120], [97, 47, 121]] from nams_blk (t := 9) (by rw [hw6]; exact box_at w5 _ _))
  have B6 := Lib.hid (show Ext w4 w6 by rw [hw6]; exact B5.out.trans (Ext.alloc _ _))
  have N56 := Lib.hid (show Nams w6 A5 [[], [97], [97, 47, 120], [97, 47, 121]] by rw [hw6]; exact N5.out.ext (Ext.alloc _ _))
  rw [← hw6]
  clear hw6
  refine (texts_calls [[], [97], [97, 47, 120], [97, 47, 121]] A5 (some ⟨w5.heap.size, 0, none⟩) c5 4 w6 N56.out N6.out (by decide)).mono ?_
  rintro e w7 ⟨rfl, hb7⟩
  have B7 := Lib.hid (B6.out.trans hb7)
  have tok5 : True := trivial
  clear hb7 N5 N6 N56
  go_wp2_with fail
  refine (D2.out w7 B7.out).mono ?_
  rintro e w8 ⟨v8, rfl, hO8, hb8⟩
  obtain ⟨A8, c8, rfl, hc8⟩ := own_read hO8
  have N8 := Lib.hid (show Nams w8 A8 [[97, 47, 120], [97, 47, 121]] from hc8)
  have B8 := Lib.hid (B7.out.trans hb8)
  clear hO8 hc8 hb8 D2
  go_wp2_with (have _t := tok5; (with_reducible refine at_bslice rfl ?_); refine wpList_unguard rfl ?_; refine bslice_two rfl 32 9 _ _ rfl appStr (by decide) #[.string (strOf [97, 47, 120])] #[.string (strOf [97, 47, 121])] rfl rfl rfl rfl ?_; clear tok5 _t)
  obtain ⟨w9, hw9⟩ : ∃ w9, w9 = w8.alloc (.cells #[.string (strOf [97, 47, 120]), .string (strOf [97, 47, 121])] 9) := ⟨_, rfl⟩
  have N9 := Lib.hid (show Nams w9 (some ⟨w8.heap.size, 0, none⟩) [[97, 47, 120], [97, 47, 121]] from nams_blk (t := 9) (by rw [hw9]; exact box_at w8 _ _))
  have B9 := Lib.hid (show Ext w4 w9 by rw [hw9]; exact B8.out.trans (Ext.alloc _ _))
  have N89 := Lib.hid (show Nams w9 A8 [[97, 47, 120], [97, 47, 121]] by rw [hw9]; exact N8.out.ext (Ext.alloc _ _))
  rw [← hw9]
  clear hw9
  refine (texts_calls [[97, 47, 120], [97, 47, 121]] A8 (some ⟨w8.heap.size, 0, none⟩) c8 2 w9 N89.out N9.out (by decide)).mono ?_
  rintro e w10 ⟨rfl, hb10⟩
  have B10 := Lib.hid (B9.out.trans hb10)
  clear hb10 N8 N9 N89
  go_wp2_with fail
  refine (D3.out w10 B10.out).mono ?_
  rintro e w11 ⟨v11, rfl, hO11, hb11⟩
  obtain ⟨A11, c11, rfl, _⟩ := own_read hO11
  have B11 := Lib.hid (B10.out.trans hb11)
  clear hO11 hb11
  go_wp2
  go_ret
  exact ⟨rfl, B4.out.trans B11.out⟩
end Go.Proofs.YtmlfnidckfeebaaGreatDoor
namespace Go.Proofs.YtmlfnidckfeebaaGreatDoor
open Go.RowKit Go.ChangeShapes Go.WideShapes Go.Deep
theorem addr_plus (g o j : Nat) : (⟨g, o, none⟩ : Addr).add j = ⟨g, o + j, none⟩ := by simp [Addr.add]
theorem cells_dots {w : World} {g o : Nat} {l : List Sp.Dot} (h : ∀ k (hk : k < l.length), w.cell? ⟨g, o + k * 2, none⟩ = some (.int .i64 (l[k]).1) ∧ w.cell? ⟨g, o + k * 2 + 1, none⟩ = some (.int .i64 (l[k]).2)) : Dots w (some ⟨g, o, none⟩) l := fun _ =>
  ⟨g, o, rfl, fun i u hi => by
    have hil : i < l.length * 2 := by
      rw [← dotsC_len]
      exact (List.getElem?_eq_some_iff.1 hi).1
    have hk : i / 2 < l.length := by omega
    have h1 := dotsC_get l (i / 2) hk
    have h2 := h (i / 2) hk
    rcases Nat.mod_two_eq_zero_or_one i with h0 | h0
    · have e : i / 2 * 2 = i := by omega
      rw [e] at h1 h2
      rw [h1.1] at hi
      rw [h2.1, hi]
    · have e : i / 2 * 2 + 1 = i := by omega
      have e2 : o + i / 2 * 2 + 1 = o + i := by omega
      rw [e] at h1
      rw [e2] at h2
      rw [h1.2] at hi
      rw [h2.2, hi]⟩
theorem cells_vers {w : World} {g o : Nat} {m : List (Option Addr × Nat × Sp.Ver)} (h : ∀ k (hk : k < m.length) j u, (verC m[k].1 m[k].2.1 m[k].2.2)[j]? = some u → w.cell? ⟨g, o + (k * 5 + j), none⟩ = some u) : Cells w (some ⟨g, o, none⟩) (versC m) := fun _ =>
  ⟨g, o, rfl, fun i u hi => by
    have hil : i < m.length * 5 := by
      rw [← versC_len]
      exact (List.getElem?_eq_some_iff.1 hi).1
    have hk : i / 5 < m.length := by omega
    have e : i / 5 * 5 + i % 5 = i := by omega
    have h1 := versC_get m (i / 5) (i % 5) hk (by omega)
    rw [e, hi] at h1
    have := h (i / 5) hk (i % 5) u h1.symm
    rwa [e] at this⟩
theorem cells_ents {w : World} {g o : Nat} {m : List (Option Addr × Nat × Sp.DE)} (h : ∀ k (hk : k < m.length), w.cell? ⟨g, o + k * 2, none⟩ = some (.string (strOf m[k].2.2.1)) ∧ w.cell? ⟨g, o + k * 2 + 1, none⟩ = some (.slice m[k].1 m[k].2.2.2.length m[k].2.1)) : Cells w (some ⟨g, o, none⟩) (entsC m) := fun _ =>
  ⟨g, o, rfl, fun i u hi => by
    have hil : i < m.length * 2 := by
      rw [← entsC_len]
      exact (List.getElem?_eq_some_iff.1 hi).1
    have hk : i / 2 < m.length := by omega
    have e : i / 2 * 2 + i % 2 = i := by omega
    have h1 := entsC_get m (i / 2) (i % 2) hk (by omega)
    rw [e, hi] at h1
    have h2 := h (i / 2) hk
    rcases Nat.mod_two_eq_zero_or_one i with h0 | h0
    · rw [h0] at h1 e
      rw [show i / 2 * 2 = i by omega] at h2
      rw [h2.1]
      simpa [entC] using h1.symm
    · rw [h0] at h1 e
      rw [show o + i / 2 * 2 + 1 = o + i by omega] at h2
      rw [h2.2]
      simpa [entC] using h1.symm⟩
section
variable {H : Type} {enc : TypeId × Value → H} {w : World} {base : Nat} {spare : Nat → Bool} {held : Bool}
theorem weights_mem {P : Program} {e : TypeId} : ∀ (l : List (DataW H)) (d : DataW H), d ∈ l → (DataW.weightsAll P e l).all (· ≤ reachBytes) = true → (d.weights P e).all (· ≤ reachBytes) = true
  | x :: r, d, h, ha => by
    unfold DataW.weightsAll at ha
    rw [List.all_append, Bool.and_eq_true] at ha
    rcases List.mem_cons.1 h with rfl | h
    · exact ha.1
    · exact weights_mem r d h ha.2
set_option maxRecDepth 100000 in
theorem open_dots {n : Nat} {cs : List Value} {x : DataW H × List MemPlace} (h : DataW.trod enc Tryz.prog w base spare held n 69 cs = some x) :
    ∃ (l : List Sp.Dot) (A : Option Addr) (cap : Nat), cs = [.slice A l.length cap] ∧ Dots w A l ∧ ((x.1.weights Tryz.prog 69).all (· ≤ reachBytes) = true → l.length ≤ 140737488351232) := by
  rcases open_slice_pairs Tryz.underlying69 Tryz.underlying68 (by kernel_rfl) rfl rfl (by kernel_rfl) (by kernel_rfl) h with ⟨hc, _⟩ | ⟨a, len, cap, m, n, V0, V1, D0, D1, P0, P1, hc, _, hl, hm, hmm, hx, hall⟩
  · exact ⟨[], none, 0, hc, Cells.nil _ _, fun _ => Nat.zero_le _⟩
  · have hlm : len ≤ m := by rw [hmm]; split <;> omega
    obtain ⟨g, o, spot⟩ := a
    refine ⟨(List.range len).map fun i => (intOf (V0 i), intOf (V1 i)), some ⟨g, o, spot⟩, cap, by simpa using hc, ?_, ?_⟩
    · rcases Nat.eq_zero_or_pos len with h0 | h0
      · subst h0; exact Cells.nil _ _
      · have hspot : spot = none := by simpa [Addr.add] using World.cell?_spot (hall 0 (by omega)).1
        subst hspot
        refine cells_dots fun k hk => ?_
        have hk' : k < len := by simpa using hk
        obtain ⟨h1, h2, h3, h4⟩ := hall k (by omega)
        obtain ⟨u, hu, _⟩ := DataW.trod_int Tryz.underlying3 h3
        obtain ⟨v, hv, _⟩ := DataW.trod_int Tryz.underlying3 h4
        simp only [List.cons.injEq, and_true] at hu hv
        rw [hu] at h1
        rw [hv] at h2
        rw [addr_plus] at h1 h2
        simp only [List.getElem_map, List.getElem_range, hu, hv, intOf]
        exact ⟨h1, h2⟩
    · intro ha
      rw [hx] at ha
      unfold DataW.weights at ha
      rw [Tryz.underlying69] at ha
      simp only [List.all_cons, Bool.and_eq_true, decide_eq_true_eq, List.length_map, List.length_range] at ha
      have hb : Tryz.prog.bytesOf 68 = 16 := by kernel_rfl
      have := ha.1
      rw [hb] at this
      simp only [reachBytes] at this
      simp only [List.length_map, List.length_range]
      omega
set_option maxRecDepth 100000 in
theorem open_ver {n : Nat} {cs : List Value} {x : DataW H × List MemPlace} (h : DataW.trod enc Tryz.prog w base spare held n 71 cs = some x) :
    ∃ y : Option Addr × Nat × Sp.Ver, cs = (verC y.1 y.2.1 y.2.2).toList ∧ Dots w y.1 y.2.2.past ∧ ((x.1.weights Tryz.prog 71).all (· ≤ reachBytes) = true → y.2.2.past.length ≤ 140737488351232) := by
  obtain ⟨xs, k, _, rfl, hl, hlen, hf⟩ := DataW.trod_struct Tryz.underlying71 h
  have c0 : Tryz.prog.cellsOf 71 = 5 := by kernel_rfl
  have c1 : Tryz.prog.cellsOf 68 = 2 := by kernel_rfl
  have c2 : Tryz.prog.cellsOf 69 = 1 := by kernel_rfl
  have c3 : Tryz.prog.cellsOf 4 = 1 := by kernel_rfl
  have c4 : Tryz.prog.cellsOf 9 = 1 := by kernel_rfl
  have c5 : Tryz.prog.cellsOf 3 = 1 := by kernel_rfl
  rw [c0] at hl
  match cs, hl, xs, hlen with
  | [a, b, c, d, e], _, [y0, y1, y2, y3], _ =>
    have g0 := hf 0 _ rfl
    have g1 := hf 1 _ rfl
    have g2 := hf 2 _ rfl
    have g3 := hf 3 _ rfl
    simp at g0 g1 g2 g3
    rw [c1] at g0
    rw [c2] at g1
    rw [c3] at g2
    rw [c4] at g3
    simp only [List.take_succ_cons, List.take_zero] at g0 g1 g2 g3
    obtain ⟨zs, k0, _, hz, hzl, hzlen, hzf⟩ := DataW.trod_struct Tryz.underlying68 g0
    match zs, hzlen with
    | [z0, z1], _ =>
      have i0 := hzf 0 _ rfl
      have i1 := hzf 1 _ rfl
      simp at i0 i1
      rw [c5] at i0 i1
      simp only [List.take_succ_cons, List.take_zero] at i0 i1
      obtain ⟨p, hp, _⟩ := DataW.trod_int Tryz.underlying3 i0
      obtain ⟨q, hq, _⟩ := DataW.trod_int Tryz.underlying3 i1
      obtain ⟨l, A, cap, hA, hd, hw⟩ := open_dots g1
      obtain ⟨bb, hbb, _⟩ := DataW.trod_bool Tryz.underlying4 g2
      obtain ⟨s, hs, _⟩ := DataW.trod_string Tryz.underlying9 g3
      simp only [List.cons.injEq, and_true] at hp hq hA hbb hs
      subst hp hq hA hbb hs
      refine ⟨(A, cap, ⟨(p, q), l, bb, s.data.toList⟩), ?_, hd, fun ha => hw ?_⟩
      · simp [strOf_self]
      · unfold DataW.weights at ha
        rw [Tryz.underlying71] at ha
        simp [DataW.weightsEach, List.all_append] at ha
        simpa using ha.2.1
set_option maxRecDepth 100000 in
theorem open_vers {n : Nat} {cs : List Value} {x : DataW H × List MemPlace} (h : DataW.trod enc Tryz.prog w base spare held n 41 cs = some x) :
    ∃ (l : List Sp.Ver) (A : Option Addr) (cap : Nat), cs = [.slice A l.length cap] ∧ ((x.1.weights Tryz.prog 41).all (· ≤ reachBytes) = true → Vers w A l) := by
  have ce : Tryz.prog.cellsOf 71 = 5 := by kernel_rfl
  rcases open_slice Tryz.underlying41 h with ⟨hc, _⟩ | ⟨a, len, cap, m, n, D, Pl, hc, _, hl, hm, hmm, hx, hall⟩
  · exact ⟨[], none, 0, hc, fun _ => Vers.nil _ _⟩
  · have hlm : len ≤ m := by rw [hmm]; split <;> omega
    obtain ⟨f, hf⟩ := choose_lt (n := len) (fun i hi => by
      obtain ⟨cs', h1, h2⟩ := hall i (by omega)
      obtain ⟨y, h3, h4, h5⟩ := open_ver h2
      exact ⟨y, (show w.cells? base (a.add (i * Tryz.prog.cellsOf 71)) (Tryz.prog.cellsOf 71) = some (verC y.1 y.2.1 y.2.2).toList ∧ Dots w y.1 y.2.2.past ∧ (((D i).weights Tryz.prog 71).all (· ≤ reachBytes) = true → y.2.2.past.length ≤ 140737488351232) from ⟨by rw [h1, h3], h4, h5⟩)⟩)
    obtain ⟨g, o, spot⟩ := a
    refine ⟨(List.range len).map fun i => (f i).2.2, some ⟨g, o, spot⟩, cap, by simpa using hc, fun ha => ?_⟩
    rcases Nat.eq_zero_or_pos len with h0 | h0
    · subst h0; exact Vers.nil _ _
    · have hcell : ∀ i, i < len → ∀ j u, (verC (f i).1 (f i).2.1 (f i).2.2)[j]? = some u → w.cell? ((⟨g, o, spot⟩ : Addr).add (i * 5 + j)) = some u := by
        intro i hi j u hj
        have h1 := (hf i hi).1
        rw [ce] at h1
        obtain ⟨_, h2, h3⟩ := World.cells?_some h1
        have hj5 : j < 5 := by
          have := (Array.getElem?_eq_some_iff.1 hj).1
          simpa using this
        have := h3 j hj5
        rw [add_add] at this
        rw [this, ← hj]
        simp
      have hspot : spot = none := by
        have := World.cell?_spot (hcell 0 h0 0 _ rfl)
        simpa [Addr.add] using this
      subst hspot
      refine ⟨(List.range len).map f, by simp, ?_, ?_⟩
      · refine cells_vers fun k hk j u hj => ?_
        have hk' : k < len := by simpa using hk
        simp only [List.getElem_map, List.getElem_range] at hj
        have := hcell k hk' j u hj
        rwa [addr_plus] at this
      · intro y hy
        obtain ⟨i, hi, rfl⟩ := List.mem_map.1 hy
        have hi' : i < len := by simpa using hi
        refine ⟨(hf i hi').2.1, (hf i hi').2.2 ?_⟩
        rw [hx] at ha
        unfold DataW.weights at ha
        rw [Tryz.underlying41] at ha
        simp only [List.all_cons, List.all_append, Bool.and_eq_true] at ha
        exact weights_mem _ _ (List.mem_map.2 ⟨i, List.mem_range.2 hi', rfl⟩) ha.2.1
set_option maxRecDepth 100000 in
theorem open_ents {n : Nat} {cs : List Value} {x : DataW H × List MemPlace} (h : DataW.trod enc Tryz.prog w base spare held n 22 cs = some x) :
    ∃ (l : List Sp.DE) (A : Option Addr) (cap : Nat), cs = [.slice A l.length cap] ∧ ((x.1.weights Tryz.prog 22).all (· ≤ reachBytes) = true → EntsAt w A l) := by
  rcases open_slice_pairs Tryz.underlying22 Tryz.underlying43 (by kernel_rfl) rfl rfl (by kernel_rfl) (by kernel_rfl) h with ⟨hc, _⟩ | ⟨a, len, cap, m, n, V0, V1, D0, D1, P0, P1, hc, _, hl, hm, hmm, hx, hall⟩
  · exact ⟨[], none, 0, hc, fun _ => ⟨[], rfl, Cells.nil _ _, fun _ h => by cases h⟩⟩
  · have hlm : len ≤ m := by rw [hmm]; split <;> omega
    obtain ⟨g, o, spot⟩ := a
    obtain ⟨f, hf⟩ := choose_lt (n := len) (p := fun i (y : Option Addr × Nat × Sp.DE) => w.cell? ((⟨g, o, spot⟩ : Addr).add (i * 2)) = some (.string (strOf y.2.2.1)) ∧ w.cell? ((⟨g, o, spot⟩ : Addr).add (i * 2 + 1)) = some (.slice y.1 y.2.2.2.length y.2.1) ∧ (((D1 i).weights Tryz.prog 41).all (· ≤ reachBytes) = true → Vers w y.1 y.2.2.2)) (fun i hi => by
      obtain ⟨h1, h2, h3, h4⟩ := hall i (by omega)
      obtain ⟨s, hs, _⟩ := DataW.trod_string Tryz.underlying9 h3
      obtain ⟨l, A, c, hA, hv⟩ := open_vers h4
      simp only [List.cons.injEq, and_true] at hs hA
      exact ⟨(A, c, (s.data.toList, l)), by rw [h1, hs, strOf_self], by rw [h2, hA], hv⟩)
    refine ⟨(List.range len).map fun i => (f i).2.2, some ⟨g, o, spot⟩, cap, by simpa using hc, fun ha => ?_⟩
    rcases Nat.eq_zero_or_pos len with h0 | h0
    · subst h0; exact ⟨[], rfl, Cells.nil _ _, fun _ h => by cases h⟩
    · have hspot : spot = none := by simpa [Addr.add] using World.cell?_spot (hall 0 (by omega)).1
      subst hspot
      refine ⟨(List.range len).map f, by simp, cells_ents fun k hk => ?_, ?_⟩
      · have hk' : k < len := by simpa using hk
        obtain ⟨h1, h2, _⟩ := hf k hk'
        rw [addr_plus] at h1 h2
        simp only [List.getElem_map, List.getElem_range]
        exact ⟨h1, h2⟩
      · intro y hy
        obtain ⟨i, hi, rfl⟩ := List.mem_map.1 hy
        have hi' : i < len := by simpa using hi
        refine (hf i hi').2.2 ?_
        rw [hx] at ha
        unfold DataW.weights at ha
        rw [Tryz.underlying22] at ha
        simp only [List.all_cons, List.all_append, Bool.and_eq_true] at ha
        have h1 := weights_mem _ _ (List.mem_map.2 ⟨i, List.mem_range.2 hi', rfl⟩) ha.2.1
        unfold DataW.weights at h1
        rw [Tryz.underlying43] at h1
        simp [DataW.weightsEach, List.all_append] at h1
        simpa using h1.2
end
theorem laid_var {P : Program} {w : World} : ∀ {l : List (String × DataW Unit)} {ps : List MemPlace}, DataW.LaidVars P w l ps → ∀ n d, (n, d) ∈ l →
    ∃ g t cs fuel p, P.globalNamed n = some g ∧ (P.globals[g]?).map (·.type) = some t ∧ w.var? P n = some cs ∧ DataW.trod (fun _ => ()) P w 0 (fun _ => true) false fuel t cs.toList = some (d, p)
  | (_, _) :: _, _, ⟨g, t, cs, fuel, p, q, h1, h2, h3, h4, h5, _⟩, n, d, h => by
    rcases List.mem_cons.1 h with h | h
    · cases h; exact ⟨g, t, cs, fuel, p, h1, h2, h3, h4⟩
    · exact laid_var h5 n d h
/-- The words of a digest's table, out of what is laid. -/
theorem keys_laid {P : Program} {w : World} {laid : List (String × DataW Unit)} {n : String} {g t e : Nat} (h : laidMetH P laid w) (hp : (laid.all fun x => x.2.handleName?.isNone) = true) (hg : P.globalNamed n = some g) (ht : (P.globals[g]?).map (·.type) = some t)
    (hu : P.underlying t = some (.array 64 e)) (he : P.underlying e = some (.int .u32)) (hc : P.cellsOf e = 1) (hct : P.cellsOf t = 64) (hm : (n, DataW.agg (Sp.keys.map fun k => .lit (.int .u32 (wd k)))) ∈ laid) : KeysAt w g := by
  rw [Go.MakeChecks.laidMetH_plain P laid w hp] at h
  obtain ⟨ps, hl, _⟩ := h
  obtain ⟨g', t', cs, fuel, p, h1, h2, h3, h4⟩ := laid_var hl _ _ hm
  obtain rfl : g' = g := Option.some.inj (h1.symm.trans hg)
  obtain rfl : t' = t := Option.some.inj (h2.symm.trans ht)
  obtain ⟨xs, k, _, hx, hlen, hxl, hf⟩ := DataW.trod_array hu h4
  rw [hct] at hlen
  simp only [Prod.mk.injEq, DataW.agg.injEq] at hx
  intro i hi
  have hkl : Sp.keys.length = 64 := by decide
  have h5 := hf i hi
  rw [hc, Nat.mul_one] at h5
  have hci : i < cs.toList.length := by omega
  rw [List.drop_eq_getElem_cons hci, List.take_succ_cons, List.take_zero, List.getElem?_eq_getElem (by omega)] at h5
  obtain ⟨m, h6, h7, _⟩ := DataW.trod_int he h5
  simp only [List.cons.injEq, and_true] at h6
  have h8 := congrArg (fun l => l[i]?) hx.1
  simp only [List.getElem?_map, List.getElem?_eq_getElem (show i < Sp.keys.length by omega), List.getElem?_eq_getElem (show i < xs.length by omega), h7, Option.map_some, Option.some.injEq, DataW.lit.injEq, Lit.int.injEq, true_and] at h8
  unfold World.var? at h3
  rw [h1] at h3
  simp only [Option.bind_some] at h3
  unfold World.cell?
  simp only
  split at h3
  · rename_i cs' t2 x2 hh
    obtain rfl : cs' = cs := Option.some.inj h3
    rw [hh]
    simp only [List.getD_eq_getElem?_getD, List.getElem?_eq_getElem (show i < Sp.keys.length by omega), Option.getD_some]
    have : cs'[i]? = some (.int .u32 m) := by
      rw [← h6]; simp
    rw [this, ← h8]
    rfl
  · cases h3
end Go.Proofs.YtmlfnidckfeebaaGreatDoor
