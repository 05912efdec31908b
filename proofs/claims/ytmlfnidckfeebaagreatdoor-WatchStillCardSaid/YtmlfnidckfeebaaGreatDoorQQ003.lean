/- Leaves: plain. Appending a slice, whatever it is, to a slice of the call's own; the append of a make. Walks: versions: check, covers, and what looks for one. Walks: versions: who covers whom. Walks: leaves, one behind the other. Walks: leaves joined; whether one of them covers a version. Walks: why a leaf may not be. Walks: why a leaf may not be. -/
import Derived.Lib.AppendZerosOnto
import Derived.Lib.AppendZeros
import Derived.Laws.OwnMore
import Derived.Shelf.Abstract
import Derived.Test.YtmlfnidckfeebaaGreatDoorQQ002
namespace Go.Proofs.YtmlfnidckfeebaaGreatDoor
namespace Sp
def vercheck (v : Ver) : Int :=
  if dot v.dot ≠ 0 then dot v.dot else if vcheck v.past ≠ 0 then vcheck v.past else if vhas v.past v.dot = true then 8 else if 48 < v.data.length then 2 else if v.dead = true ∧ v.data ≠ [] then 7 else 0
def covers (a b : Ver) : Bool := vhas a.past b.dot
def covered (l : List Ver) (v : Ver) : Bool := l.any fun w => covers w v
def lgo : Option Int → List Ver → Int
  | _, [] => 0
  | last, v :: r => if vercheck v ≠ 0 then vercheck v else if (∃ x, last = some x ∧ v.dot.1 ≤ x) then 8 else lgo (some v.dot.1) r
instance (last : Option Int) (d : Int) : Decidable (∃ x, last = some x ∧ d ≤ x) := by
  cases last with
  | none => exact isFalse (by rintro ⟨_, h, _⟩; cases h)
  | some y => exact decidable_of_iff (d ≤ y) ⟨fun h => ⟨y, rfl, h⟩, by rintro ⟨x, h, h'⟩; cases h; exact h'⟩
def leaf (l : List Ver) : Int := if 64 < l.length then 2 else if lgo none l ≠ 0 then lgo none l else if (l.any fun v => covered l v) = true then 7 else 0
def live (l : List Ver) : List Ver := l.filter fun v => !v.dead
end Sp
end Go.Proofs.YtmlfnidckfeebaaGreatDoor
namespace Go.Proofs.YtmlfnidckfeebaaGreatDoor
open Go.RowKit
section
variable {P : Program} {ops : Array Oper} {rest : List Oper} {o : Oper} {a : Act} {Q : Exit → Act → World → Prop} {w : World}
theorem own_len {w : World} {base n : Nat} {e : TypeId} {size : Nat} {v : Value} {xs : List Value} (h : w.ownsRow base e size v n xs) : xs.length = n * size := h.1
theorem own_form {w : World} {base n : Nat} {e : TypeId} {size : Nat} {v : Value} {xs : List Value} (h : w.ownsRow base e size v n xs) : (v = .slice none 0 0 ∧ n = 0 ∧ xs = []) ∨ ∃ g cap, v = .slice (some ⟨g, 0, none⟩) n cap ∧ base ≤ g ∧ g < w.heap.size := by
  rcases h.2 with ⟨h1, h2⟩ | ⟨g, cap, cur, rfl, hg, hh, _⟩
  · exact .inl ⟨h1, h2, List.eq_nil_of_length_eq_zero (by rw [h.1, h2]; simp)⟩
  · exact .inr ⟨g, cap, rfl, hg, (Array.getElem?_eq_some_iff.1 hh).1⟩
theorem own_read {w : World} {base n : Nat} {e : TypeId} {size : Nat} {v : Value} {xs : List Value} (h : w.ownsRow base e size v n xs) : ∃ A cap, v = .slice A n cap ∧ Cells w A xs := by
  rcases own_form h with ⟨rfl, rfl, rfl⟩ | ⟨g, cap, rfl, _, _⟩
  · exact ⟨none, 0, rfl, Cells.nil _ _⟩
  · exact ⟨_, cap, rfl, Cells.own h⟩
theorem app_cells {t e : TypeId} {size bytes : Nat} (hst : AppStat P t e size bytes) (hgd : o.guard = none) (s x : Operand) (ho : o.op = .call { callee := .builtin .append, args := #[s, x], argTypes := #[t, t] })
    (base : Nat) (v : Value) (n : Nat) (xs : List Value) (hs : a.eval s = v) (hown : w.ownsRow base e size v n xs) (X : Option Addr) (m c : Nat) (news : List Value)
    (hx : a.eval x = .slice X m c) (hl : news.length = m * size) (hX : Cells w X news) (h1 : ∀ u ∈ news, u.oneCell' = true) (hcap : (n + m) * bytes ≤ 140737488355328) (hbase : base ≤ w.heap.size)
    (h : ∀ v' w', w'.ownsRow base e size v' (n + m) (xs ++ news) → w.grownBy w' v.ownBlock → Below base w w' → wpList P ops Q rest (a.put o.dst v') w') : wpList P ops Q (o :: rest) a w := by
  obtain ⟨ht, hz0, hb0, i, z, hi, hz, hsz, hby, hzs⟩ := hst
  have hmax : n + m ≤ maxLen := by
    have : n + m ≤ (n + m) * bytes := Nat.le_mul_of_pos_right _ hb0
    unfold maxLen; omega
  by_cases h0 : news = []
  · subst h0
    have hm : m = 0 := by
      rcases Nat.eq_zero_or_pos m with h | h
      · exact h
      · have := Nat.mul_pos h hz0; simp at hl; omega
    subst hm
    have key : (Builtin.append_ #[t, t] o.type #[v, .slice X 0 c]).run P w = .ok v w := by
      rcases own_form hown with ⟨rfl, rfl, _⟩ | ⟨g, cap, rfl, _, _⟩
      · cases X with
        | none => simp [Builtin.append_, run_underlying ht, sizeOf, typeInfo, hi, Builtin.lenOf, Builtin.firstCells]
        | some ad => simp [Builtin.append_, run_underlying ht, sizeOf, typeInfo, hi, Builtin.lenOf, Builtin.firstCells, loadCells, loadCellsFrom]
      · have hnc : n ≤ cap := by
          rcases hown.2 with ⟨hn, _⟩ | ⟨g', cap', cur, hv, _, _, hnc, _⟩
          · cases hn
          · cases hv; exact hnc
        cases X with
        | none => simp [Builtin.append_, run_underlying ht, sizeOf, typeInfo, hi, Builtin.lenOf, Builtin.firstCells, hnc, storeCells]
        | some ad => simp [Builtin.append_, run_underlying ht, sizeOf, typeInfo, hi, Builtin.lenOf, Builtin.firstCells, hnc, storeCells, loadCells, loadCellsFrom]
    refine Lib.wpList_append_run w hgd s x t t ho v _ hs hx v w key ?_
    refine h v w (by simpa using hown) ⟨rfl, rfl, rfl, Nat.le_refl _, fun k _ _ => rfl⟩ (Below.refl _ _)
  · obtain ⟨g, of, hA, hc⟩ := hX h0
    subst hA
    refine wpList_append_own _ hgd s x t ho base e i z size bytes ht hi hz hsz hby hzs hz0 v n xs hs hown ⟨g, of, none⟩ m c news hx hl ?_ h1 hmax hcap hbase ?_
    · intro j u hj
      have := hc j u hj
      cases j <;> simpa [Addr.add] using this
    · intro v' w' hown' hg _
      refine h v' w' hown' hg ((Below.refl _ _).grown hg hbase fun k hk => ?_)
      exact (hown.lt k hk).1
theorem app_zeros {t tn e : TypeId} {size bytes : Nat} (hst : AppStat P t e size bytes) (htn : P.underlying tn = some (.int .i64)) (hgd : o.guard = none) (s x : Operand) (ho : o.op = .call { callee := .builtin .append, args := #[s, x], argTypes := #[t, tn] })
    (n : Nat) (hn : 0 < n) (hs : a.eval s = .slice none 0 0) (hx : a.eval x = .int .i64 n) (hcap : n * bytes ≤ 140737488355328)
    (h : ∀ g cap w', w.heap.size ≤ g → w'.ownsRow w.heap.size e size (.slice (some ⟨g, 0, none⟩) 0 cap) 0 [] → n ≤ cap → cap ≤ 9223372036854775807 → Ext w w' → wpList P ops Q rest (a.put o.dst (.slice (some ⟨g, 0, none⟩) n cap)) w') : wpList P ops Q (o :: rest) a w := by
  obtain ⟨ht, hz0, hb0, i, z, hi, hz, hsz, hby, hzs⟩ := hst
  have hnb : n ≤ n * bytes := Nat.le_mul_of_pos_right _ hb0
  have h63 : ((0 + n : Nat) : Int) ≤ 9223372036854775807 := by omega
  have hnx : Builtin.nextslicecap (0 + n) 0 = n := by
    unfold Builtin.nextslicecap
    rw [if_pos (by omega)]; omega
  have run := Lib.run_append_grow_zeros (P := P) w t tn o.type e i z .i64 .i64 ht htn hi hz none 0 0 [] (by simp [Builtin.firstCells]) n hn (by omega) (by omega) h63 (by rw [hby]; omega) (by rw [hnx, hby]; omega)
  refine Lib.wpList_append_run w hgd s x t tn ho _ _ hs hx _ _ run ?_
  rw [Nat.zero_add]
  have hg1 : n ≤ grownCap w n 0 e := grownCap_ge w _ _ _
  have hg2 := grownCap_le_maxLen w n 0 e (by unfold maxLen; omega)
  unfold maxLen at hg2
  refine h w.heap.size _ _ (Nat.le_refl _) ⟨by simp, .inr ⟨w.heap.size, _, _, rfl, Nat.le_refl _, heap_alloc_new w.drew _, Nat.zero_le _, by unfold maxLen; omega, ?_, by simp⟩⟩ hg1 hg2 ((Below.refl _ _).drew.alloc (Nat.le_refl _) _)
  have hzc : ∀ k, (Builtin.zeroCells z.cells k).size = k * size := fun k => by simp [Builtin.zeroCells, hzs]
  simp only [Array.size_append, hzc]
  simp
  rw [← Nat.add_mul]
  congr 1
  omega
end
end Go.Proofs.YtmlfnidckfeebaaGreatDoor
namespace Go.Proofs.YtmlfnidckfeebaaGreatDoor
open Go.RowKit
attribute [local go_sem] yUpon
set_option maxRecDepth 100000 in
set_option maxHeartbeats 2000000 in
theorem vercheck_calls (v : Sp.Ver) (A : Option Addr) (cap : Nat) (w : World) (h : Past w A v) :
    Calls Tryz.prog 157 #[verV A cap v] w fun e w' => e = .returned (.int .i64 (Sp.vercheck v)) ∧ Ext w w' := by
  obtain ⟨W0, hW0⟩ : ∃ W0, W0 = w.alloc (.cells (verC A cap v) 71) := ⟨_, rfl⟩
  have HB := Lib.hid (show isBlk W0 w.heap.size 71 (verC A cap v) by rw [hW0]; exact box_at _ _ _)
  have E0 := Lib.hid (show Ext w W0 by rw [hW0]; exact Ext.alloc _ _)
  have HW := Lib.hid hW0.symm
  have SZ := Lib.hid (show W0.heap.size = w.heap.size + 1 by rw [hW0]; simp)
  have CO := Lib.hid fun (W : World) (g : Nat) (hg : W.heap.size = g) (t : TypeId) => vcheck_calls [v.dot] (some ⟨g, 0, none⟩) 1 (W.alloc (.cells #[.int .i64 v.dot.1, .int .i64 v.dot.2] t)) (fun _ => ⟨_, _, rfl, fun i u hi => by rw [Nat.zero_add, ← hg, cell_of_row _ W.heap.size i _ t (0, 0) (heap_alloc_new W _)]; simpa [dotsC] using hi⟩) (by simp)
  have CP := Lib.hid fun W (e : Ext w W) => vcheck_calls v.past A cap W (h.1.ext e) h.2
  have CH := Lib.hid fun W (e : Ext w W) => vhas_calls v.past A cap v.dot W (h.1.ext e) h.2
  rw [Sp.vcheck_one] at CO
  have sz : (strOf v.data).size = v.data.length := strOf_size _
  clear h hW0
  go_enter Tryz.func157, Tryz.ntmps157
  go_wp2_with fail
  rw [HW.out]
  refine (CO.out W0 _ SZ.out _).mono ?_
  rintro e w1 ⟨rfl, hb1⟩
  have B1 := Lib.hid ((Ext.alloc W0 _).trans hb1)
  have z1 := HB.out.below B1.out
  have c0 := (z1.cell 0).trans rfl
  have c1 := (z1.cell 1).trans rfl
  have c2 := (z1.cell 2).trans rfl
  have Z1 := Lib.hid z1
  clear z1 hb1
  go_wp2_with (first
    | (go_at_call 137; refine (CP.out _ (E0.out.trans B1.out)).mono ?_; rintro e w2 ⟨rfl, hb2⟩; have z2 := Z1.out.below hb2; have d0 := (z2.cell 0).trans rfl; have d1 := (z2.cell 1).trans rfl; have d2 := (z2.cell 2).trans rfl; have B2 := Lib.hid (B1.out.trans hb2); have Z2 := Lib.hid z2; clear c0 c1 c2 z2 hb2)
    | (go_at_call 229; refine (CH.out _ (E0.out.trans B2.out)).mono ?_; rintro e w3 ⟨rfl, hb3⟩; have z3 := Z2.out.below hb3; have e3 := (z3.cell 3).trans rfl; have e4 := (z3.cell 4).trans rfl; have B3 := Lib.hid (B2.out.trans hb3); clear d0 d1 d2 z3 hb3))
  all_goals
    go_ret
    refine ⟨ret_int ?_, ?_⟩
    · have tl := strOf_toList v.data
      clear HB E0 HW SZ CO CP CH B1 Z1
      unfold Sp.vercheck
      simp_all
      try omega
    · first
        | exact E0.out.trans B3.out
        | exact E0.out.trans B2.out
        | exact E0.out.trans B1.out
end Go.Proofs.YtmlfnidckfeebaaGreatDoor
namespace Go.Proofs.YtmlfnidckfeebaaGreatDoor
open Go.RowKit
attribute [local go_sem] yUpon
set_option maxRecDepth 100000 in
set_option maxHeartbeats 2000000 in
theorem covers_calls (a b : Sp.Ver) (A B : Option Addr) (cap cap' : Nat) (w : World) (h : Past w A a) :
    Calls Tryz.prog 163 #[verV A cap a, verV B cap' b] w fun e w' => e = .returned (.bool (Sp.covers a b)) ∧ Ext w w' := by
  have CH := Lib.hid fun W (e : Ext w W) => vhas_calls a.past A cap b.dot W (h.1.ext e) h.2
  clear h
  go_enter Tryz.func163, Tryz.ntmps163
  go_wp2_with (go_at_call 229; refine (CH.out _ ((Ext.alloc _ _).trans (Ext.alloc _ _))).mono ?_; rintro e w1 ⟨rfl, hb1⟩)
  go_ret
  exact ⟨rfl, ((Ext.alloc _ _).trans (Ext.alloc _ _)).trans hb1⟩
def VarAt (w : World) (g : Nat) (v : Sp.Ver) : Prop := ∃ A cap, VerAt w g 0 A cap v ∧ Past w A v
theorem VarAt.ext {w w' : World} {g : Nat} {v : Sp.Ver} (h : VarAt w g v) (e : Ext w w') : VarAt w' g v := by
  obtain ⟨A, cap, h1, h2⟩ := h
  exact ⟨A, cap, h1.ext e, h2.ext e⟩
set_option maxRecDepth 100000 in
set_option maxHeartbeats 2000000 in
theorem cov11_calls (a b : Sp.Ver) (A : Option Addr) (cap : Nat) (g : Nat) (w : World) (h : Past w A a) (hb : VarAt w g b) :
    Calls Tryz.prog 162 #[verV A cap a, .pointer (some ⟨g, 0, none⟩)] w fun e w' => e = .returned (.bool (Sp.covers a b)) ∧ Ext w w' := by
  obtain ⟨B, cap', hv, hp⟩ := hb
  have C := Lib.hid fun W (e : Ext w W) => covers_calls a b A B cap cap' W (h.ext e)
  have hv' := hv.ext (Ext.alloc w (.cells (verC A cap a) 71))
  have c0 := hv'.c0
  have c1 := hv'.c1
  have c2 := hv'.c2
  have c3 := hv'.c3
  have c4 := hv'.c4
  clear hv hv' hp h
  go_enter Tryz.func162, Tryz.ntmps162
  go_wp2_with (go_at_call 163; refine (C.out _ (Ext.alloc _ _)).mono ?_; rintro e w1 ⟨rfl, hb1⟩)
  go_ret
  exact ⟨rfl, (Ext.alloc _ _).trans hb1⟩
set_option maxRecDepth 100000 in
set_option maxHeartbeats 2000000 in
theorem veridx_calls (f : FuncId) (bs : Array Value) (p : Sp.Ver → Bool) (l : List Sp.Ver) (A : Option Addr) (cap : Nat) (w : World) (h : Vers w A l) (hl : l.length ≤ 140737488351232) (eg : ∀ args w, (callFunc f args).run Tryz.prog w = .ok (.enter f args) w)
    (hf : ∀ W A' cap' v, v ∈ l → Ext w W → Past W A' v → Calls Tryz.prog f (#[verV A' cap' v] ++ bs) W fun e w' => e = .returned (.bool (p v)) ∧ Ext W w') :
    Calls Tryz.prog 159 #[.slice A l.length cap, .func (.func f) #[] bs] w fun e w' => ToldAt (l.any p) e ∧ Ext w w' := by
  have HF := Lib.hid hf
  clear hf
  go_enter Tryz.func159, Tryz.ntmps159
  go_wp2
  go_loopw [8] (fun v8 wr => ∃ k : Nat, k ≤ l.length ∧ v8 = .int .i64 k ∧ l.any p = (l.drop k).any p ∧ Ext w wr) (fun v8 _ => l.length - (intOf v8).toNat)
  case atStart => exact ⟨0, Nat.zero_le _, rfl, rfl, Ext.refl _⟩
  case round =>
    obtain ⟨k, hk, rfl, hv, hb⟩ := hrel
    by_cases hlt : k < l.length
    · obtain ⟨g, o, rfl, hc⟩ := (h.ext hb).at (by omega)
      obtain ⟨A', c', ⟨c0, c1, c2, c3, c4⟩, hp⟩ := hc k hlt
      rw [List.drop_eq_getElem_cons hlt, List.any_cons] at hv
      have HV := Lib.hid hv
      have C := Lib.hid (HF.out wr A' c' l[k] (List.getElem_mem hlt) hb hp)
      clear hv hc hp
      go_wp2_with fail
      refine C.out.mono ?_
      rintro e w1 ⟨rfl, hb1⟩
      have B1 := Lib.hid (hb.trans hb1)
      clear hb1
      go_wp2
      · go_ret
        exact ⟨⟨k, rfl, by rw [HV.out]; simp_all⟩, B1.out⟩
      · go_roundw
        case rel => exact ⟨k + 1, by omega, by go_num, by rw [HV.out]; simp_all, B1.out⟩
        case measure => simp [intOf]; omega
    · obtain rfl : k = l.length := by omega
      have HV := Lib.hid hv
      clear hv
      go_wp2
      go_ret
      exact ⟨⟨-1, rfl, by rw [HV.out]; simp⟩, hb⟩
set_option maxRecDepth 100000 in
set_option maxHeartbeats 2000000 in
theorem vercont_calls (f : FuncId) (bs : Array Value) (p : Sp.Ver → Bool) (l : List Sp.Ver) (A : Option Addr) (cap : Nat) (w : World) (h : Vers w A l) (hl : l.length ≤ 140737488351232) (eg : ∀ args w, (callFunc f args).run Tryz.prog w = .ok (.enter f args) w)
    (hf : ∀ W A' cap' v, v ∈ l → Ext w W → Past W A' v → Calls Tryz.prog f (#[verV A' cap' v] ++ bs) W fun e w' => e = .returned (.bool (p v)) ∧ Ext W w') :
    Calls Tryz.prog 158 #[.slice A l.length cap, .func (.func f) #[] bs] w fun e w' => e = .returned (.bool (l.any p)) ∧ Ext w w' := by
  have C := Lib.hid (veridx_calls f bs p l A cap w h hl eg hf)
  clear h hf eg
  go_enter Tryz.func158, Tryz.ntmps158
  go_wp2_with fail
  refine C.out.mono ?_
  rintro e w1 ⟨⟨r, rfl, hr⟩, hb1⟩
  have HR := Lib.hid hr
  clear hr
  go_wp2
  go_ret
  exact ⟨by rw [← HR.out]; rfl, hb1⟩
end Go.Proofs.YtmlfnidckfeebaaGreatDoor
namespace Go.Proofs.YtmlfnidckfeebaaGreatDoor
open Go.RowKit
attribute [local go_sem] yUpon
theorem appVer : AppStat Tryz.prog 41 71 5 64 := by
  refine ⟨Tryz.underlying41, by decide, by decide, ?_⟩
  obtain ⟨i0, hi, hz0, hz1, hz2⟩ := info_parts (show (Tryz.prog.info? 71).map (fun i => (i.zero, i.size, i.bytes)) = some (some (.agg #[.int .i64 0, .int .i64 0, .slice none 0 0, .bool false, .string ⟨#[]⟩]), 5, 64) by kernel_rfl)
  exact ⟨i0, _, hi, hz0, hz1, hz2, rfl⟩
def OwnVers (w : World) (B : Nat) (v : Value) (l : List Sp.Ver) : Prop := ∃ m : List (Option Addr × Nat × Sp.Ver), m.map (·.2.2) = l ∧ w.ownsRow B 71 5 v l.length (versC m) ∧ ∀ x ∈ m, Past w x.1 x.2.2
theorem OwnVers.read {w : World} {B : Nat} {v : Value} {l : List Sp.Ver} (h : OwnVers w B v l) : ∃ A cap, v = .slice A l.length cap ∧ Vers w A l := by
  obtain ⟨m, h1, h2, h3⟩ := h
  obtain ⟨A, cap, hv, hc⟩ := own_read h2
  exact ⟨A, cap, hv, m, h1, hc, h3⟩
theorem versC_one (m : List (Option Addr × Nat × Sp.Ver)) : ∀ u ∈ versC m, u.oneCell' = true := by
  induction m with
  | nil => intro u hu; cases hu
  | cons x r ih =>
    intro u hu
    rw [versC, List.mem_append] at hu
    rcases hu with hu | hu
    · simp at hu
      rcases hu with rfl | rfl | rfl | rfl | rfl <;> rfl
    · exact ih u hu
def VV (w : World) (A : Option Addr) (ls : List (List Sp.Ver)) : Prop := ∃ cs : List Value, cs.length = ls.length ∧ Cells w A cs ∧ ∀ i (h : i < ls.length), ∃ A' cap', cs[i]? = some (.slice A' ls[i].length cap') ∧ Vers w A' ls[i]
theorem VV.ext {w w' : World} {A : Option Addr} {l : List (List Sp.Ver)} (h : VV w A l) (e : Ext w w') : VV w' A l := by
  obtain ⟨cs, h1, h2, h3⟩ := h
  exact ⟨cs, h1, h2.ext e, fun i hi => by obtain ⟨A', c', a, b⟩ := h3 i hi; exact ⟨A', c', a, b.ext e⟩⟩
theorem VV.at {w : World} {A : Option Addr} {ls : List (List Sp.Ver)} (h : VV w A ls) (k : Nat) (hk : k < ls.length) : ∃ g o A' cap', A = some ⟨g, o, none⟩ ∧ w.cell? ⟨g, o + k, none⟩ = some (.slice A' ls[k].length cap') ∧ Vers w A' ls[k] := by
  obtain ⟨cs, h1, h2, h3⟩ := h
  obtain ⟨g, o, hA, hc⟩ := h2 (by rintro rfl; simp at h1; omega)
  obtain ⟨A', c', a, b⟩ := h3 k hk
  exact ⟨g, o, A', c', hA, hc _ _ a, b⟩
theorem VV.one {w : World} {l : List Sp.Ver} {A : Option Addr} {cap g : Nat} {t : TypeId} (h : Vers w A l) (hg : w.heap.size = g) : VV (w.alloc (.cells #[.slice A l.length cap] t)) (some ⟨g, 0, none⟩) [l] := by
  subst hg
  exact ⟨[.slice A l.length cap], rfl, fun _ => ⟨_, _, rfl, fun i u hi => by rw [Nat.zero_add, cell_of_row _ w.heap.size i _ t (0, 0) (heap_alloc_new w _)]; simpa using hi⟩, fun i hi => by
    obtain rfl : i = 0 := by simpa using hi
    exact ⟨A, cap, rfl, h.ext (Ext.alloc _ _)⟩⟩
def Grown (w : World) (e : Ending) (w' : World) : Prop := ∃ v, e = .returned v ∧ w'.ownsRow w.heap.size 71 5 v 0 [] ∧ Ext w w'
set_option maxRecDepth 100000 in
set_option maxHeartbeats 2000000 in
theorem vergrow_calls (n : Nat) (w : World) (hn : n ≤ 1000000) : Calls Tryz.prog 160 #[.slice none 0 0, .int .i64 n] w (Grown w) := by
  by_cases h0 : n = 0
  · subst h0
    go_enter Tryz.func160, Tryz.ntmps160
    go_wp2
    go_ret
    exact ⟨_, rfl, ⟨by simp, .inl ⟨rfl, rfl⟩⟩, Ext.refl _⟩
  · have b0 : decide ((n : Int) < 0) = false := by rw [decide_eq_false_iff_not]; omega
    have b1 : decide ((0 : Int) < n) = true := by rw [decide_eq_true_iff]; omega
    have w1 : IntKind.i64.wrap (n : Int) = n := IntWalk.i64_in _ (by omega)
    have hpos : 0 < n := by omega
    clear h0
    go_enter Tryz.func160, Tryz.ntmps160
    go_wp2_with (at_builtin; refine app_zeros appVer Tryz.underlying3 rfl _ _ rfl n hpos rfl rfl (by omega) ?_; intro g cap w2 hg hown hnc hcm hb)
    go_ret
    exact ⟨_, rfl, hown, hb⟩
end Go.Proofs.YtmlfnidckfeebaaGreatDoor
namespace Go.Proofs.YtmlfnidckfeebaaGreatDoor
open Go.RowKit
attribute [local go_sem] yUpon
theorem flat_take {α} (ls : List (List α)) (k : Nat) (h : k < ls.length) : (ls.take (k + 1)).flatten = (ls.take k).flatten ++ ls[k] := by
  rw [List.take_succ_eq_append_getElem h, List.flatten_append]; simp
theorem flat_le {α} (ls : List (List α)) (k : Nat) : ((ls.take k).flatten).length ≤ ls.flatten.length := by
  conv => rhs; rw [← List.take_append_drop k ls]
  rw [List.flatten_append, List.length_append]; omega
def ToldVers (w : World) (l : List Sp.Ver) (e : Ending) (w' : World) : Prop := ∃ v, e = .returned v ∧ OwnVers w' w.heap.size v l ∧ Ext w w'
set_option maxRecDepth 100000 in
set_option maxHeartbeats 4000000 in
theorem verconcat_calls (ls : List (List Sp.Ver)) (A : Option Addr) (cap : Nat) (w : World) (h : VV w A ls) (hl : ls.length ≤ 1000000) (hs : ls.flatten.length ≤ 1000000) :
    Calls Tryz.prog 90 #[.slice A ls.length cap] w (ToldVers w ls.flatten) := by
  go_enter Tryz.func90, Tryz.ntmps90
  go_wp2
  go_loopw [3, 11] (fun v3 v11 wr => ∃ k : Nat, k ≤ ls.length ∧ v11 = .int .i64 k ∧ v3 = .int .i64 ((ls.take k).flatten.length : Nat) ∧ w = wr) (fun _ v11 _ => ls.length - (intOf v11).toNat)
  case atStart => exact ⟨0, Nat.zero_le _, rfl, rfl, rfl⟩
  case round =>
    obtain ⟨k, hk, rfl, rfl, rfl⟩ := hrel
    by_cases hlt : k < ls.length
    · obtain ⟨g, o, A', c', rfl, c1, hv⟩ := h.at k hlt
      have st := flat_take ls k hlt
      have le1 := flat_le ls (k + 1)
      rw [st, List.length_append] at le1
      obtain ⟨n, hn⟩ : ∃ n, n = (ls.take k).flatten.length := ⟨_, rfl⟩
      have F := Lib.hid (show (ls.take (k + 1)).flatten.length = n + ls[k].length by rw [st, List.length_append, hn])
      rw [← hn] at le1 ⊢
      have b1 : decide ((n : Int) + (ls[k].length : Int) < 0) = false := by rw [decide_eq_false_iff_not]; omega
      clear st hv hn
      go_wp2_with fail
      go_roundw
      case rel => exact ⟨k + 1, by omega, by go_num, by rw [F.out]; go_num, trivial⟩
      case measure => simp [intOf]; omega
    · obtain rfl : k = ls.length := by omega
      rw [List.take_length]
      have G := Lib.hid (vergrow_calls ls.flatten.length w hs)
      obtain ⟨n, hn⟩ : ∃ n, n = ls.flatten.length := ⟨_, rfl⟩
      rw [← hn] at G ⊢
      have HN := Lib.hid hn
      clear hn
      go_wp2_with fail
      refine G.out.mono ?_
      rintro e w1 ⟨v, rfl, hown, hb⟩
      have O1 := Lib.hid hown
      have B1 := Lib.hid hb
      clear hown hb
      go_wp2_with fail
      go_loopw [6, 27] (fun v6 v27 wr => ∃ k : Nat, k ≤ ls.length ∧ v27 = .int .i64 k ∧ (∃ m : List (Option Addr × Nat × Sp.Ver), m.map (·.2.2) = (ls.take k).flatten ∧ wr.ownsRow w.heap.size 71 5 v6 (ls.take k).flatten.length (versC m) ∧ ∀ x ∈ m, Past w x.1 x.2.2) ∧ Ext w wr) (fun _ v27 _ => ls.length - (intOf v27).toNat)
      case atStart => exact ⟨0, Nat.zero_le _, rfl, ⟨[], by simp, by simpa [versC] using O1.out, fun _ h => by cases h⟩, B1.out⟩
      case round =>
        obtain ⟨k, hk, rfl, hO, hb⟩ := hrel
        by_cases hlt : k < ls.length
        · obtain ⟨g, o, A', c', rfl, c1, m2, hm2, hc2, hp2⟩ := h.at k hlt
          replace hc2 := hc2.ext hb
          replace c1 := hb.cell c1
          obtain ⟨m1, hm1, hown, hp1⟩ := hO
          have le1 := flat_le ls (k + 1)
          have st := flat_take ls k hlt
          rw [st, List.length_append] at le1
          have ST := Lib.hid st
          have HM := Lib.hid hm1
          have HM2 := Lib.hid hm2
          have HO := Lib.hid hown
          have L2 := Lib.hid (show (versC m2).length = ls[k].length * 5 by rw [versC_len, ← hm2, List.length_map])
          clear st hm1 hm2 hown
          go_wp2_with (at_builtin; refine app_cells appVer rfl _ _ rfl w.heap.size _ _ _ rfl HO.out A' ls[k].length c' (versC m2) rfl L2.out hc2 (versC_one m2) (by have := HN.out; omega) hb.size ?_; intro v7 w7 hown7 hgr7 hb7; have OW := Lib.hid hown7; have BB := Lib.hid hb7; clear hown7 hgr7 hb7)
          go_roundw
          case rel =>
            refine ⟨k + 1, by omega, by go_num, ⟨m1 ++ m2, ?_, ?_, ?_⟩, BB.out.from hb⟩
            · rw [List.map_append, HM.out, HM2.out, ST.out]
            · rw [versC_append, ST.out, List.length_append]; exact OW.out
            · intro x hx
              rcases List.mem_append.1 hx with h1 | h1
              · exact hp1 x h1
              · exact hp2 x h1
          case measure => simp [intOf]; omega
        · obtain rfl : k = ls.length := by omega
          rw [List.take_length] at hO
          go_wp2_with fail
          go_ret
          obtain ⟨m, h1, h2, h3⟩ := hO
          exact ⟨_, rfl, ⟨m, h1, h2, fun x hx => (h3 x hx).ext hb⟩, hb⟩
end Go.Proofs.YtmlfnidckfeebaaGreatDoor
namespace Go.Proofs.YtmlfnidckfeebaaGreatDoor
open Go.RowKit Go.Shelf
attribute [local go_sem] yUpon
theorem eg11 : ∀ args w, (callFunc 162 args).run Tryz.prog w = .ok (.enter 162 args) w := enters_of Tryz.func162 (by kernel_rfl) rfl
theorem eg1 : ∀ args w, (callFunc 161 args).run Tryz.prog w = .ok (.enter 161 args) w := enters_of Tryz.func161 (by kernel_rfl) rfl
set_option maxRecDepth 100000 in
set_option maxHeartbeats 4000000 in
theorem cov1_calls (ls : List (List Sp.Ver)) (v : Sp.Ver) (A B : Option Addr) (cap cap' g : Nat) (w : World) (h : VV w A ls) (hl : ls.length ≤ 1000000) (hs : ls.flatten.length ≤ 1000000) (hg : w.cell? ⟨g, 0, none⟩ = some (.slice A ls.length cap)) (hv : Past w B v) :
    Calls Tryz.prog 161 #[verV B cap' v, .pointer (some ⟨g, 0, none⟩)] w fun e w' => e = .returned (.bool (Sp.covered ls.flatten v)) ∧ Ext w w' := by
  obtain ⟨W0, hW0⟩ : ∃ W0, W0 = w.alloc (.cells (verC B cap' v) 71) := ⟨_, rfl⟩
  have HB := Lib.hid (show isBlk W0 w.heap.size 71 (verC B cap' v) by rw [hW0]; exact box_at _ _ _)
  have E0 := Lib.hid (show Ext w W0 by rw [hW0]; exact Ext.alloc _ _)
  have HW := Lib.hid hW0.symm
  have c0 := Ext.cell (Ext.alloc w (.cells (verC B cap' v) 71)) hg
  have CC := Lib.hid (verconcat_calls ls A cap W0 (h.ext E0.out) hl hs)
  have HV := Lib.hid (hv.ext E0.out)
  have CT := Lib.hid fun W (e : Ext W0 W) A2 cap2 (h2 : Vers W A2 ls.flatten) => vercont_calls 162 #[.pointer (some ⟨w.heap.size, 0, none⟩)] (fun x => Sp.covers x v) ls.flatten A2 cap2 W h2 (by omega) eg11
    (fun W2 A3 cap3 x _ e2 hx => cov11_calls x v A3 cap3 w.heap.size W2 hx ⟨B, cap', (HB.out.below (e.trans e2)).ver, HV.out.ext (e.trans e2)⟩)
  obtain ⟨fl, hfl⟩ : ∃ fl, fl = ls.flatten := ⟨_, rfl⟩
  rw [← hfl] at CC CT ⊢
  clear h hW0 hg hv hfl hs
  go_enter Tryz.func161, Tryz.ntmps161
  go_wp2_with fail
  rw [HW.out]
  refine CC.out.mono ?_
  rintro e w1 ⟨x, rfl, hO, hb1⟩
  obtain ⟨A2, cap2, rfl, hV2⟩ := hO.read
  have C2 := Lib.hid (CT.out w1 hb1 A2 cap2 hV2)
  clear hO hV2
  go_wp2_with fail
  refine C2.out.mono ?_
  rintro e w2 ⟨rfl, hb2⟩
  go_wp2
  go_ret
  exact ⟨rfl, E0.out.trans (hb1.trans hb2)⟩
def CovFn (w : World) (ls : List (List Sp.Ver)) (e : Ending) (w' : World) : Prop := ∃ g, e = .returned (.func (.func 161) #[] #[.pointer (some ⟨g, 0, none⟩)]) ∧ Ext w w' ∧
  ∃ A cap, w'.cell? ⟨g, 0, none⟩ = some (.slice A ls.length cap) ∧ VV w' A ls
set_option maxRecDepth 100000 in
set_option maxHeartbeats 4000000 in
theorem covered_calls (ls : List (List Sp.Ver)) (A : Option Addr) (cap : Nat) (w : World) (h : VV w A ls) :
    Calls Tryz.prog 91 #[.slice A ls.length cap] w (CovFn w ls) := by
  have HH := Lib.hid h
  clear h
  go_enter Tryz.func91, Tryz.ntmps91
  go_wp2
  go_ret
  exact ⟨_, rfl, Ext.alloc _ _, A, cap, by rw [cell_of_row _ w.heap.size 0 _ _ (0, 0) (heap_alloc_new w _)]; rfl, HH.out.ext (Ext.alloc _ _)⟩
end Go.Proofs.YtmlfnidckfeebaaGreatDoor
namespace Go.Proofs.YtmlfnidckfeebaaGreatDoor
open Go.RowKit Go.Shelf
attribute [local go_sem] yUpon
namespace Sp
def lastP (l : List Ver) (k : Nat) : Option Int := if k = 0 then none else (l[k - 1]?).map (·.dot.1)
theorem lgo_step (l : List Ver) (k : Nat) (h : k < l.length) : lgo (lastP l k) (l.drop k) = if vercheck l[k] ≠ 0 then vercheck l[k] else if (∃ x, lastP l k = some x ∧ l[k].dot.1 ≤ x) then 8 else lgo (lastP l (k + 1)) (l.drop (k + 1)) := by
  rw [List.drop_eq_getElem_cons h, lgo]
  have : lastP l (k + 1) = some l[k].dot.1 := by unfold lastP; rw [if_neg (by omega)]; simp [h]
  rw [this]
theorem lastP_zero (l : List Ver) (d : Int) : ¬ ∃ x, lastP l 0 = some x ∧ d ≤ x := by
  rintro ⟨x, h, _⟩; cases h
theorem lastP_pos (l : List Ver) (k : Nat) (d : Int) (h0 : 0 < k) (h : k - 1 < l.length) : (∃ x, lastP l k = some x ∧ d ≤ x) ↔ d ≤ l[k - 1].dot.1 := by
  unfold lastP
  rw [if_neg (by omega), List.getElem?_eq_getElem h]
  simp
end Sp
set_option maxRecDepth 100000 in
set_option maxHeartbeats 4000000 in
theorem leaf_calls (l : List Sp.Ver) (A : Option Addr) (cap : Nat) (w : World) (h : Vers w A l) :
    Calls Tryz.prog 88 #[.slice A l.length cap] w fun e w' => e = .returned (.int .i64 (Sp.leaf l)) ∧ Ext w w' := by
  by_cases h64 : 64 < l.length
  · have F := Lib.hid (show Sp.leaf l = 2 from if_pos h64)
    have b1 : decide ((64 : Int) < (l.length : Int)) = true := by rw [decide_eq_true_iff]; omega
    clear h64
    go_enter Tryz.func88, Tryz.ntmps88
    go_wp2
    go_ret
    exact ⟨ret_int F.out.symm, Ext.refl _⟩
  · have F := Lib.hid (show Sp.leaf l = if Sp.lgo none l ≠ 0 then Sp.lgo none l else if (l.any fun v => Sp.covered l v) = true then 7 else 0 from if_neg h64)
    have b1 : decide ((64 : Int) < (l.length : Int)) = false := by rw [decide_eq_false_iff_not]; omega
    have hl : l.length ≤ 64 := by omega
    clear h64
    go_enter Tryz.func88, Tryz.ntmps88
    go_wp2
    go_loopw [11] (fun v11 wr => ∃ k : Nat, k ≤ l.length ∧ v11 = .int .i64 k ∧ Sp.lgo none l = Sp.lgo (Sp.lastP l k) (l.drop k) ∧ Ext w wr) (fun v11 _ => l.length - (intOf v11).toNat)
    case atStart => exact ⟨0, Nat.zero_le _, rfl, rfl, Ext.refl _⟩
    case round =>
      obtain ⟨k, hk, rfl, hv, hb⟩ := hrel
      by_cases hlt : k < l.length
      · obtain ⟨g, o, rfl, hc⟩ := (h.ext hb).at (by omega)
        obtain ⟨A', c', ⟨c0, c1, c2, c3, c4⟩, hp⟩ := hc k hlt
        have HC := Lib.hid hc
        rw [Sp.lgo_step l k hlt] at hv
        have HV := Lib.hid hv
        have HB := Lib.hid (box_at wr (verC A' c' l[k]) 71)
        have VC := Lib.hid (vercheck_calls l[k] A' c' _ (hp.ext (Ext.alloc wr (.cells (verC A' c' l[k]) 71))))
        clear hv hc hp
        go_wp2_with fail
        refine VC.out.mono ?_
        rintro e w1 ⟨rfl, hb1⟩
        have B1 := Lib.hid ((Ext.alloc _ _).trans hb1)
        have z1 := Lib.hid (HB.out.below hb1)
        clear hb1
        by_cases hz : Sp.vercheck l[k] = 0
        · have b2 : (Sp.vercheck l[k] != 0) = false := by simpa using hz
          by_cases h0 : k = 0
          · subst h0
            have b3 : decide ((0 : Int) < 0) = false := by decide
            go_wp2_with fail
            refine wp_region_det (fun W => Ext w1 W) (by kernel_rfl) (by kernel_rfl) (Below.refl _ _).drew ?_
            repeat (first
              | (refine det_step (fun K hK => ?_)
                 apply Exists.intro
                 refine ⟨Or.inl ⟨rfl, fun W hS => ?_⟩, ?_⟩
                 · replace hS : Ext w1 W := hS
                   skip
                   go_simp
                   first
                   | exact rfl
                   | exact ⟨rfl, hS⟩
                   | (fail)
                 go_simp
                 refine hK _ ?_
                 clear hK K)
              | (refine det_step (fun K hK => ?_); refine det_no' rfl ?_; go_simp; refine hK _ ?_; clear hK K))
            refine det_nil ?_
            intro W9 hS
            replace hS : Ext _ W9 := hS
            go_wp2_with fail
            go_roundw
            case rel => exact ⟨1, by omega, rfl, by rw [HV.out, if_neg (by simpa using hz), if_neg (Sp.lastP_zero _ _)], hb.trans (B1.out.trans hS)⟩
            case measure => simp [intOf]; omega
          · have b3 : decide (0 < k) = true := by rw [decide_eq_true_iff]; omega
            have h0' : 0 < k := by omega
            obtain ⟨A2, c2', ⟨d0, d1, d2, d3, d4⟩, hp2⟩ := HC.out (k - 1) (by omega)
            have w1' : IntKind.i64.wrap ((k : Int) - 1) = (k : Int) - 1 := IntWalk.i64_in _ (by omega)
            have i1 : (0 : Int) ≤ (k : Int) - 1 := by omega
            have i2 : (k : Int) - 1 < l.length := by omega
            have i4 : (1 : Int) ≤ k := by omega
            have i5 : 1 ≤ k := by omega
            have i3 : ((k : Int) - 1).toNat = k - 1 := by omega
            have e0 := B1.out.cell d0
            clear d0 d1 d2 d3 d4 hp2
            go_wp2_with fail
            refine wp_region_det (fun W => Ext w1 W) (by kernel_rfl) (by kernel_rfl) (Below.refl _ _).drew ?_
            repeat (first
              | (refine det_step (fun K hK => ?_)
                 apply Exists.intro
                 refine ⟨Or.inl ⟨rfl, fun W hS => ?_⟩, ?_⟩
                 · replace hS : Ext w1 W := hS
                   have f1 := hS.cell e0; have f2 := ((z1.out.below hS).cell 0).trans rfl
                   go_simp
                   first
                   | exact rfl
                   | exact ⟨rfl, hS⟩
                   | (fail)
                 go_simp
                 refine hK _ ?_
                 clear hK K)
              | (refine det_step (fun K hK => ?_); refine det_no' rfl ?_; go_simp; refine hK _ ?_; clear hK K))
            refine det_nil ?_
            intro W9 hS
            replace hS : Ext _ W9 := hS
            go_wp2_with fail
            · go_ret
              have hle : l[k].dot.1 ≤ l[k - 1].dot.1 := by assumption
              have e8 : Sp.lgo none l = 8 := by rw [HV.out, if_neg (by simpa using hz), if_pos ((Sp.lastP_pos l k _ h0' (by omega)).2 hle)]
              exact ⟨ret_int (by rw [F.out, e8]; rfl), hb.trans (B1.out.trans hS)⟩
            · have hgt : ¬ l[k].dot.1 ≤ l[k - 1].dot.1 := by omega
              go_roundw
              case rel => exact ⟨k + 1, by omega, by go_num, by rw [HV.out, if_neg (by simpa using hz), if_neg (fun e => hgt ((Sp.lastP_pos l k _ h0' (by omega)).1 e))], hb.trans (B1.out.trans hS)⟩
              case measure => simp [intOf]; omega
        · have b2 : (Sp.vercheck l[k] != 0) = true := by simpa using hz
          go_wp2_with fail
          go_ret
          have e8 : Sp.lgo none l = Sp.vercheck l[k] := by rw [HV.out, if_pos hz]
          exact ⟨ret_int (by rw [F.out, e8, if_pos hz]), hb.trans B1.out⟩
      · obtain rfl : k = l.length := by omega
        rw [List.drop_length, Sp.lgo] at hv
        have HV := Lib.hid hv
        clear hv
        obtain ⟨W1, hW1⟩ : ∃ W1, W1 = wr.alloc (.cells #[.slice A l.length cap] 41) := ⟨_, rfl⟩
        have CF := Lib.hid (covered_calls [l] (some ⟨wr.heap.size, 0, none⟩) 1 W1 (by rw [hW1]; exact VV.one (h.ext hb) rfl))
        have E1 := Lib.hid (show Ext w W1 by rw [hW1]; exact hb.trans (Ext.alloc _ _))
        have HW := Lib.hid hW1.symm
        clear hW1
        go_wp2_with fail
        rw [HW.out]
        refine CF.out.mono ?_
        rintro e w2 ⟨g, rfl, hb2, A2, cap2, hg, hvv⟩
        have CT := Lib.hid (vercont_calls 161 #[.pointer (some ⟨g, 0, none⟩)] (fun v => Sp.covered l v) l A cap w2 ((h.ext E1.out).ext hb2) (by omega) eg1
          (fun W A' cap' v _ e hp => by
            have := cov1_calls [l] v A2 A' cap2 cap' g W (hvv.ext e) (by simp) (by simp; omega) (e.cell hg) hp
            simpa using this))
        clear hg hvv
        go_wp2_with fail
        refine CT.out.mono ?_
        rintro e w3 ⟨rfl, hb3⟩
        go_wp2
        · go_ret
          exact ⟨ret_int (by rw [F.out, HV.out]; simp_all), E1.out.trans (hb2.trans hb3)⟩
        · go_ret
          exact ⟨ret_int (by rw [F.out, HV.out]; simp_all), E1.out.trans (hb2.trans hb3)⟩
end Go.Proofs.YtmlfnidckfeebaaGreatDoor
