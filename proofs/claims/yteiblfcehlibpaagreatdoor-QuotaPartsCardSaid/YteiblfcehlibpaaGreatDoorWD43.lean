/- Plain and walks: which paths are below a directory, as the program tells. Walks: the entries of a tree of which something is so. Walks: walk.Under, walk.List. -/
import Derived.Test.YteiblfcehlibpaaGreatDoorWD42
import Derived.Test.YteiblfcehlibpaaGreatDoorWD37
import Derived.Test.YteiblfcehlibpaaGreatDoorWD39
import Derived.Test.YteiblfcehlibpaaGreatDoorWD27
namespace Go.Proofs.YteiblfcehlibpaaGreatDoor
open Go.RowKit Go.Shelf
attribute [local go_sem] yUpon strOf_toList
namespace Sp
theorem bad_parts {p : Bs} (h : check p ≠ 0) : parts p = [] := by
  unfold check at h
  split at h
  · rename_i h1
    unfold parts
    rw [if_pos h1]
  · split at h
    · rename_i h2; exact List.eq_nil_of_length_eq_zero h2
    · exact absurd rfl h
theorem split_app (s t : Bs) : split (s ++ 47 :: t) = split s ++ split t := by
  induction s with
  | nil => rw [List.nil_append]; simp [split]
  | cons c r ih =>
    rw [List.cons_append]
    by_cases h : c = 47
    · rw [split, if_pos h, ih, split, if_pos h]; rfl
    · obtain ⟨a, l, e⟩ : ∃ a l, split r = a :: l := by
        cases e : split r with
        | nil => exact absurd e (split_ne r)
        | cons a l => exact ⟨a, l, rfl⟩
      rw [split, if_neg h, ih, split, if_neg h, e]; rfl
theorem join_app : ∀ (a b : List Bs), a ≠ [] → b ≠ [] → joinP (a ++ b) = joinP a ++ 47 :: joinP b
  | [], _, h, _ => absurd rfl h
  | [s], [], _, h => absurd rfl h
  | [s], b :: q, _, _ => by rw [List.singleton_append, joinP, joinP]
  | s :: t :: r, b, _, hb => by
    have ih := join_app (t :: r) b (by simp) hb
    rw [List.cons_append, List.cons_append, joinP, ← List.cons_append, ih, joinP]
    simp
theorem under_no {p d : Bs} (h : check p ≠ 0) : under p d = false := by
  unfold under
  rw [bad_parts h]
  simp
theorem under_root {p : Bs} (h : check p = 0) : under p [] = true := by
  have h1 := (check_parts h).1
  have h2 := split_ne p
  unfold under
  rw [parts_empty, h1]
  simp [h2, List.length_pos_iff]
theorem under_dir {p d : Bs} (h : check p = 0) (hd : check d = 0) : under p d = Lib.hasPrefix p (d ++ [47]) := by
  have h1 := (check_parts h).1
  have h2 := (check_parts hd).1
  have n1 := split_ne p
  have n2 := split_ne d
  unfold under
  rw [h1, h2]
  unfold Lib.hasPrefix
  rw [Bool.eq_iff_iff, List.isPrefixOf_iff_prefix]
  simp only [ne_eq, n1, n2, not_false_eq_true, decide_true, Bool.true_and, Bool.and_eq_true, decide_eq_true_eq, Bool.or_true]
  constructor
  · rintro ⟨hl, ht⟩
    have hp : split p = split d ++ (split p).drop (split d).length := by
      conv => lhs; rw [← List.take_append_drop (split d).length (split p), ht]
    have hne : (split p).drop (split d).length ≠ [] := by
      intro e
      have := congrArg List.length e
      rw [List.length_drop] at this
      simp at this
      omega
    have := congrArg joinP hp
    rw [join_split, join_app _ _ n2 hne, join_split] at this
    exact ⟨joinP ((split p).drop (split d).length), by rw [List.append_assoc]; exact this.symm⟩
  · rintro ⟨t, rfl⟩
    rw [List.append_assoc, List.singleton_append, split_app]
    have := split_ne t
    refine ⟨by rw [List.length_append]; have := List.length_pos_iff.2 this; omega, by rw [List.take_left]⟩
theorem under_else {p d : Bs} (h : check d ≠ 0) (hd : d ≠ []) : under p d = false := by
  unfold under
  rw [bad_parts h]
  simp [hd]
end Sp
set_option maxRecDepth 100000 in
set_option maxHeartbeats 4000000 in
theorem punder_calls (p d : Sp.Bs) (w : World) (M : MaxAt w) :
    Calls Tryz.prog 66 #[.string (strOf p), .string (strOf d)] w fun e w' => e = .returned (.bool (Sp.under p d)) ∧ Ext w w' := by
  have PC := Lib.hid (show ∀ s W, Ext w W → Calls Tryz.prog 88 #[.string (strOf s)] W fun e w' => e = .returned (.int .i64 (Sp.check s)) ∧ Ext W w' from fun s W e => by
    have := pcheck_calls (strOf s) W (max_kept M e)
    rw [strOf_data] at this
    exact this)
  have HP := Lib.hid (show ∀ W, Calls Tryz.prog 101 #[.string (strOf p), .string (strOf d ++ ⟨#[47]⟩)] W fun e w' => e = .returned (.bool (Lib.hasPrefix p (d ++ [47]))) ∧ w' = W from fun W => by
    have := Tryz.strings_HasPrefix (strOf p) (strOf d ++ ⟨#[47]⟩) W
    rw [strOf_data, show (strOf d ++ ⟨#[47]⟩ : ByteArray).data.toList = d ++ [47] by simp [strOf]] at this
    exact this)
  go_enter Tryz.func66, Tryz.ntmps66
  go_wp2_with fail
  refine (PC.out p w (Ext.refl _)).mono ?_
  rintro e w1 ⟨rfl, hb1⟩
  have B1 := Lib.hid hb1
  clear hb1
  by_cases hp : Sp.check p = 0
  · rw [hp]
    by_cases hd : d = []
    · subst hd
      have UR := Lib.hid (Sp.under_root hp)
      have c1 : (([] : List UInt8).isEmpty) = true := rfl
      clear hp
      go_wp2
      go_ret
      exact ⟨by rw [UR.out]; rfl, B1.out⟩
    · have c5 : d.isEmpty = false := by cases d with | nil => exact absurd rfl hd | cons _ _ => rfl
      have c6 : (d == []) = false := by rw [beq_eq_false_iff_ne]; exact hd
      by_cases hc : Sp.check d = 0
      · have UD := Lib.hid (Sp.under_dir hp hc)
        have HC := Lib.hid hc
        have z1 : ¬ 9223372036854775807 < (strOf d).size + 1 := by rw [strOf_size]; have := (Sp.check_parts hc).2.1; omega
        clear hp hd hc
        go_wp2_with fail
        refine (PC.out d w1 B1.out).mono ?_
        rintro e w2 ⟨rfl, hb2⟩
        have B2 := Lib.hid (B1.out.trans hb2)
        rw [HC.out]
        clear hb2
        go_wp2_with fail
        refine (HP.out w2).mono ?_
        rintro e w3 ⟨rfl, rfl⟩
        go_wp2
        go_ret
        exact ⟨by rw [UD.out]; rfl, B2.out⟩
      · have UE := Lib.hid (Sp.under_else (p := p) hc hd)
        have h0 : (Sp.check d == 0) = false := by rw [beq_eq_false_iff_ne]; exact hc
        clear hp hd
        go_wp2_with fail
        refine (PC.out d w1 B1.out).mono ?_
        rintro e w2 ⟨rfl, hb2⟩
        have B2 := Lib.hid (B1.out.trans hb2)
        clear hb2
        go_wp2
        go_ret
        exact ⟨by rw [UE.out]; rfl, B2.out⟩
  · have UB := Lib.hid (Sp.under_no (d := d) hp)
    go_wp2
    go_ret
    exact ⟨by rw [UB.out]; rfl, B1.out⟩
end Go.Proofs.YteiblfcehlibpaaGreatDoor
namespace Go.Proofs.YteiblfcehlibpaaGreatDoor
open Go.RowKit Go.Shelf
attribute [local go_sem] yUpon strOf_toList e3V
set_option maxRecDepth 100000 in
set_option maxHeartbeats 2000000 in
theorem filt1_calls (x : E3) (gb : Nat) (f : FuncId) (bs : Array Value) (b : Bool) (w : World) (eg : ∀ args w, (callFunc f args).run Tryz.prog w = .ok (.enter f args) w) (hb : isBlk w gb 100 #[.func (.func f) #[] bs])
    (hF : ∀ W, Ext w W → Calls Tryz.prog f (#[.string (strOf x.2.2.1)] ++ bs) W fun e W' => e = .returned (.bool b) ∧ Ext W W') :
    Calls Tryz.prog 100 (#[e3V x] ++ #[.pointer (some ⟨gb, 0, none⟩)]) w fun e w' => e = .returned (.bool (!b)) ∧ Ext w w' := by
  obtain ⟨x1, x2, x3, x4⟩ := x
  obtain ⟨w1, hw1⟩ : ∃ w1, w1 = w.alloc (.cells #[.string (strOf x3), .slice x1 x4.length x2] 51) := ⟨_, rfl⟩
  have X1 := Lib.hid (show isBlk w1 w.heap.size 51 #[.string (strOf x3), .slice x1 x4.length x2] by rw [hw1]; exact box_at w _ _)
  have E1 := Lib.hid (show Ext w w1 by rw [hw1]; exact Ext.alloc _ _)
  have f0 := ((hb.below E1.out).cell 0).trans rfl
  have k0 := (X1.out.cell 0).trans rfl
  have CF := Lib.hid (hF w1 E1.out)
  have HW := Lib.hid hw1
  clear hb hF hw1
  show Calls Tryz.prog 100 #[.agg #[.string (strOf x3), .slice x1 x4.length x2], .pointer (some ⟨gb, 0, none⟩)] w _
  go_enter Tryz.func100, Tryz.ntmps100
  go_upto_region 1 with fail
  rw [← HW.out]
  go_wp2_with fail
  refine CF.out.mono ?_
  rintro e w2 ⟨rfl, hb2⟩
  have E2 := Lib.hid (E1.out.trans hb2)
  clear hb2
  go_wp2
  go_ret
  exact ⟨rfl, E2.out⟩
theorem kept_filter (p : Sp.Bs → Bool) (mo : List E3) : (keptE (fun x => !p x.2.2.1) mo mo.length).map (·.2.2) = (mo.map (·.2.2)).filter fun e => p e.1 := by
  unfold keptE
  rw [List.take_length, List.filter_map]
  congr 1
  refine List.filter_congr fun x _ => ?_
  simp
set_option maxRecDepth 100000 in
set_option maxHeartbeats 4000000 in
theorem filtered_calls (o : Option Sp.T) (v : Value) (f : FuncId) (bs : Array Value) (p : Sp.Bs → Bool) (J : World → Prop) (w : World) (hT : TreeAt w v o) (hg : Sp.GoodO o) (hd : ∀ x ∈ Sp.entriesO o, x.1.length ≤ 60) (hs : ∀ e ∈ Sp.told o, e.1.length ≤ 1000) (hl : (Sp.told o).length ≤ 1000) (K : KeysAt w 4)
    (eg : ∀ args w, (callFunc f args).run Tryz.prog w = .ok (.enter f args) w) (hJ : ∀ W W', J W → Below w.heap.size W W' → J W') (hF : ∀ W, J W → ∀ s : Sp.Bs, s.length ≤ 1000 → Calls Tryz.prog f (#[.string (strOf s)] ++ bs) W fun e W' => e = .returned (.bool (p s)) ∧ Ext W W') (h0 : J w) :
    Calls Tryz.prog 64 #[v, .func (.func f) #[] bs] w fun e w' => ∃ v', e = .returned v' ∧ EntsOwn w' w.heap.size v' ((Sp.told o).filter fun e => p e.1) ∧ Ext w w' := by
  obtain ⟨w1, hw1⟩ : ∃ w1, w1 = w.alloc (.cells #[.func (.func f) #[] bs] 100) := ⟨_, rfl⟩
  have X1 := Lib.hid (show isBlk w1 w.heap.size 100 #[.func (.func f) #[] bs] by rw [hw1]; exact box_at w _ _)
  have E1 := Lib.hid (show Ext w w1 by rw [hw1]; exact Ext.alloc _ _)
  have EC := Lib.hid (entown_calls o v w1 (hT.ext E1.out) hg hd (K.ext E1.out))
  have HW := Lib.hid hw1
  have S1 := Lib.hid (show w1.heap.size = w.heap.size + 1 by rw [hw1, World.size_alloc])
  have J1 := Lib.hid (hJ _ _ h0 E1.out)
  have HJ := Lib.hid hJ
  have HF := Lib.hid hF
  have HS := Lib.hid hs
  have HL := Lib.hid hl
  have EG := Lib.hid eg
  obtain ⟨a, rfl⟩ := tree_ptr hT
  have eg1 := enters_of Tryz.func27 (by kernel_rfl) rfl
  clear hT hg hd K hw1 hJ hF h0 hs hl eg
  go_enter Tryz.func64, Tryz.ntmps64
  go_upto_region 1 with fail
  rw [← HW.out]
  go_wp2_with fail
  refine EC.out.mono ?_
  rintro e w2 ⟨v2, rfl, hO2, hb2⟩
  obtain ⟨mo, hm, hrow, hlv⟩ := hO2
  have ML := Lib.hid (show (Sp.told o).length = mo.length by rw [← hm, List.length_map])
  rw [ML.out] at hrow
  have MM := Lib.hid hm
  have LV := Lib.hid hlv
  have E2 := Lib.hid (show Ext w1 w2 from hb2)
  have DC := Lib.hid (delf_calls mo v2 w1.heap.size 100 #[.pointer (some ⟨w.heap.size, 0, none⟩)] (fun x => !p x.2.2.1) (fun W => J W ∧ isBlk W w.heap.size 100 #[.func (.func f) #[] bs]) w2 hb2.size (by have := HL.out; have := ML.out; omega) (enters_of Tryz.func100 (by kernel_rfl) rfl)
    (fun W W' h e => ⟨HJ.out W W' h.1 (e.mono (by have := S1.out; omega)), (e.block _ (by have := S1.out; omega)).trans h.2⟩) hrow
    (fun W h x hx => filt1_calls x w.heap.size f bs (p x.2.2.1) W EG.out h.2 (fun W' e => HF.out W' (HJ.out W W' h.1 (Below.mono e (Nat.le_of_lt h.2.lt))) x.2.2.1 (HS.out x.2.2 (by rw [← hm]; exact List.mem_map_of_mem hx))))
    ⟨HJ.out _ _ J1.out (hb2.mono (by have := S1.out; omega)), X1.out.below hb2⟩)
  clear hm hrow hlv hb2
  go_wp2_with fail
  refine DC.out.mono ?_
  rintro e w3 ⟨v3, rfl, hO3, hk3⟩
  have O3 := Lib.hid hO3
  have K3 := Lib.hid hk3
  clear hO3 hk3
  go_wp2
  go_ret
  have hF1 : ((Sp.told o).filter fun e => p e.1) = (keptE (fun x => !p x.2.2.1) mo mo.length).map (·.2.2) := by rw [kept_filter, MM.out]
  refine ⟨_, rfl, ⟨_, hF1.symm, ?_, fun x hx => ?_⟩, Below.trans E1.out (Below.trans (E2.out.mono (by have := S1.out; omega)) (K3.out.below.mono (by have := S1.out; omega)))⟩
  · rw [hF1, List.length_map]
    exact own_lowT O3.out (by have := S1.out; omega)
  · have hxm : x ∈ mo := by
      unfold keptE at hx
      exact List.mem_of_mem_take (List.mem_filter.1 hx).1
    exact (LV.out x hxm).keep (by intro h; cases h) (by intro h; cases h) K3.out
end Go.Proofs.YteiblfcehlibpaaGreatDoor
namespace Go.Proofs.YteiblfcehlibpaaGreatDoor
open Go.RowKit Go.Shelf
attribute [local go_sem] yUpon strOf_toList
namespace Sp
/-- Is a path below a directory, behind a text? -/
def behind (d a p : Bs) : Bool := under p d && decide (0 < compare p a)
def wunder (m : List DE) (d : Bs) : List DE := m.filter fun e => under e.1 d
def wlist (m : List DE) (d a : Bs) (most : Int) : List DE := (m.filter fun e => behind d a e.1).take most.toNat
end Sp
theorem max_lt {w : World} (h : MaxAt w) : 0 < w.heap.size := by
  obtain ⟨q, hq⟩ := h
  exact World.block_lt_of_cell? w _ hq
theorem max_below {B : Nat} {W W' : World} (h : MaxAt W) (e : Below B W W') (hB : 0 < B) : MaxAt W' := by
  obtain ⟨q, hq⟩ := h
  exact ⟨q, (World.cell?_of_block (e.block _ hB)).trans hq⟩
set_option maxRecDepth 100000 in
set_option maxHeartbeats 2000000 in
theorem under1_calls (s d : Sp.Bs) (gd : Nat) (w : World) (hb : isBlk w gd 9 #[.string (strOf d)]) (M : MaxAt w) :
    Calls Tryz.prog 68 (#[.string (strOf s)] ++ #[.pointer (some ⟨gd, 0, none⟩)]) w fun e w' => e = .returned (.bool (Sp.under s d)) ∧ Ext w w' := by
  have UC := Lib.hid (punder_calls s d w M)
  have f0 := (hb.cell 0).trans rfl
  show Calls Tryz.prog 68 #[.string (strOf s), .pointer (some ⟨gd, 0, none⟩)] w _
  go_enter Tryz.func68, Tryz.ntmps68
  go_wp2_with fail
  refine UC.out.mono ?_
  rintro e w2 ⟨rfl, hb2⟩
  go_wp2
  go_ret
  exact ⟨rfl, hb2⟩
set_option maxRecDepth 100000 in
set_option maxHeartbeats 2000000 in
theorem list1_calls (s d a : Sp.Bs) (gd ga : Nat) (w : World) (hb : isBlk w gd 9 #[.string (strOf d)]) (ha : isBlk w ga 9 #[.string (strOf a)]) (M : MaxAt w) (hs : s.length ≤ 1000000) (hal : a.length ≤ 1000000) :
    Calls Tryz.prog 65 (#[.string (strOf s)] ++ #[.pointer (some ⟨gd, 0, none⟩), .pointer (some ⟨ga, 0, none⟩)]) w fun e w' => e = .returned (.bool (Sp.behind d a s)) ∧ Ext w w' := by
  have UC := Lib.hid (punder_calls s d w M)
  have CC := Lib.hid (show ∀ W, Ext w W → Calls Tryz.prog 67 #[.string (strOf s), .string (strOf a)] W fun e w' => e = .returned (.int .i64 (Sp.compare s a)) ∧ Ext W w' from fun W e => by
    have := compare_calls (strOf s) (strOf a) W (max_kept M e) (by rw [strOf_size]; omega) (by rw [strOf_size]; omega)
    rw [strOf_data, strOf_data] at this
    exact this)
  have BH := Lib.hid (show Sp.behind d a s = (Sp.under s d && decide (0 < Sp.compare s a)) from rfl)
  have f0 := (hb.cell 0).trans rfl
  have HA := Lib.hid ha
  obtain ⟨u, hu⟩ : ∃ u, u = Sp.under s d := ⟨_, rfl⟩
  rw [← hu] at UC BH
  clear hu hb ha M
  show Calls Tryz.prog 65 #[.string (strOf s), .pointer (some ⟨gd, 0, none⟩), .pointer (some ⟨ga, 0, none⟩)] w _
  go_enter Tryz.func65, Tryz.ntmps65
  go_wp2_with fail
  refine UC.out.mono ?_
  rintro e w2 ⟨rfl, hb2⟩
  have B2 := Lib.hid hb2
  have f1 := ((HA.out.below hb2).cell 0).trans rfl
  clear hb2 f0
  cases u with
  | false =>
    go_wp2
    go_ret
    exact ⟨by rw [BH.out]; rfl, B2.out⟩
  | true =>
    go_wp2_with fail
    refine (CC.out w2 B2.out).mono ?_
    rintro e w3 ⟨rfl, hb3⟩
    have B3 := Lib.hid (B2.out.trans hb3)
    clear hb3
    go_wp2
    go_ret
    exact ⟨by rw [BH.out, Bool.true_and]; rfl, B3.out⟩
set_option maxRecDepth 100000 in
set_option maxHeartbeats 4000000 in
theorem wunder_calls (o : Option Sp.T) (v : Value) (d : Sp.Bs) (w : World) (hT : TreeAt w v o) (hg : Sp.GoodO o) (hd : ∀ x ∈ Sp.entriesO o, x.1.length ≤ 60) (hs : ∀ e ∈ Sp.told o, e.1.length ≤ 1000) (hl : (Sp.told o).length ≤ 1000) (K : KeysAt w 4) (M : MaxAt w) :
    Calls Tryz.prog 30 #[v, .string (strOf d)] w fun e w' => ∃ v', e = .returned v' ∧ EntsOwn w' w.heap.size v' (Sp.wunder (Sp.told o) d) ∧ Ext w w' := by
  obtain ⟨w1, hw1⟩ : ∃ w1, w1 = w.alloc (.cells #[.string (strOf d)] 9) := ⟨_, rfl⟩
  have X1 := (show isBlk w1 w.heap.size 9 #[.string (strOf d)] by rw [hw1]; exact box_at w _ _)
  have E1 := Lib.hid (show Ext w w1 by rw [hw1]; exact Ext.alloc _ _)
  have S1 : w1.heap.size = w.heap.size + 1 := by rw [hw1, World.size_alloc]
  have FC := Lib.hid (filtered_calls o v 68 #[.pointer (some ⟨w.heap.size, 0, none⟩)] (fun s => Sp.under s d) (fun W => isBlk W w.heap.size 9 #[.string (strOf d)] ∧ MaxAt W) w1 (hT.ext E1.out) hg hd hs hl (K.ext E1.out) (enters_of Tryz.func68 (by kernel_rfl) rfl)
    (fun W W' h e => ⟨(e.block _ (by omega)).trans h.1, max_below h.2 e (by have := max_lt M; omega)⟩)
    (fun W h s _ => under1_calls s d w.heap.size W h.1 h.2) ⟨X1, max_kept M E1.out⟩)
  have HW := Lib.hid hw1
  obtain ⟨a, rfl⟩ := tree_ptr hT
  clear hT hg hd hs hl K M X1 S1 hw1
  go_enter Tryz.func30, Tryz.ntmps30
  go_upto_region 1 with fail
  rw [← HW.out]
  go_wp2_with fail
  refine FC.out.mono ?_
  rintro e w2 ⟨v2, rfl, hO2, hb2⟩
  have O2 := Lib.hid hO2
  have B2 := Lib.hid (E1.out.trans hb2)
  clear hO2 hb2
  go_wp2
  go_ret
  refine ⟨_, rfl, ?_, B2.out⟩
  obtain ⟨mo, h1, h2, h3⟩ := O2.out
  exact ⟨mo, h1, own_lowT h2 E1.out.size, h3⟩
theorem EntsOwn.take {w : World} {B : Nat} {g n cap : Nat} {l : List Sp.DE} (h : EntsOwn w B (.slice (some ⟨g, 0, none⟩) n cap) l) (hn : n = l.length) (k : Nat) (hk : k ≤ n) : EntsOwn w B (.slice (some ⟨g, 0, none⟩) k cap) (l.take k) := by
  obtain ⟨mo, h1, h2, h3⟩ := h
  subst hn
  have hml : mo.length = l.length := by rw [← h1, List.length_map]
  refine ⟨mo.take k, by rw [List.map_take, h1], ?_, fun x hx => h3 x (List.mem_of_mem_take hx)⟩
  have h4 := own_take h2 k hk
  rw [entsC_take] at h4
  have e : (l.take k).length = k := by rw [List.length_take]; omega
  rw [e]
  exact h4
set_option maxRecDepth 100000 in
set_option maxHeartbeats 4000000 in
theorem wlist_calls (o : Option Sp.T) (v : Value) (d a : Sp.Bs) (most : Int) (w : World) (hal : a.length ≤ 1000000) (hT : TreeAt w v o) (hg : Sp.GoodO o) (hd : ∀ x ∈ Sp.entriesO o, x.1.length ≤ 60) (hs : ∀ e ∈ Sp.told o, e.1.length ≤ 1000) (hl : (Sp.told o).length ≤ 1000) (K : KeysAt w 4) (M : MaxAt w) :
    Calls Tryz.prog 28 #[v, .string (strOf d), .string (strOf a), .int .i64 most] w fun e w' => ∃ v', e = .returned v' ∧ EntsOwn w' w.heap.size v' (Sp.wlist (Sp.told o) d a most) ∧ Ext w w' := by
  obtain ⟨w1, hw1⟩ : ∃ w1, w1 = (w.alloc (.cells #[.string (strOf d)] 9)).alloc (.cells #[.string (strOf a)] 9) := ⟨_, rfl⟩
  have X1 := (show isBlk w1 w.heap.size 9 #[.string (strOf d)] by rw [hw1]; exact (box_at w _ _).alloc _)
  have Y1 := (show isBlk w1 (w.heap.size + 1) 9 #[.string (strOf a)] by rw [hw1]; have := box_at (w.alloc (.cells #[.string (strOf d)] 9)) #[.string (strOf a)] 9; rwa [World.size_alloc] at this)
  have E1 := Lib.hid (show Ext w w1 by rw [hw1]; exact (Ext.alloc w _).trans (Ext.alloc _ _))
  have S1 : w1.heap.size = w.heap.size + 2 := by rw [hw1, World.size_alloc, World.size_alloc]
  have FC := Lib.hid (filtered_calls o v 65 #[.pointer (some ⟨w.heap.size, 0, none⟩), .pointer (some ⟨w.heap.size + 1, 0, none⟩)] (fun s => Sp.behind d a s) (fun W => isBlk W w.heap.size 9 #[.string (strOf d)] ∧ isBlk W (w.heap.size + 1) 9 #[.string (strOf a)] ∧ MaxAt W) w1 (hT.ext E1.out) hg hd hs hl (K.ext E1.out) (enters_of Tryz.func65 (by kernel_rfl) rfl)
    (fun W W' h e => ⟨(e.block _ (by omega)).trans h.1, (e.block _ (by omega)).trans h.2.1, max_below h.2.2 e (by have := max_lt M; omega)⟩)
    (fun W h s hs => list1_calls s d a w.heap.size (w.heap.size + 1) W h.1 h.2.1 h.2.2 (by omega) hal) ⟨X1, Y1, max_kept M E1.out⟩)
  have HW := Lib.hid hw1
  obtain ⟨ap, rfl⟩ := tree_ptr hT
  obtain ⟨fl, hfl⟩ : ∃ fl, fl = (Sp.told o).filter (fun e => Sp.behind d a e.1) := ⟨_, rfl⟩
  have WL := Lib.hid (show Sp.wlist (Sp.told o) d a most = fl.take most.toNat by rw [hfl]; rfl)
  have FLL := Lib.hid (show fl.length ≤ 1000 by rw [hfl]; exact Nat.le_trans (List.length_filter_le _ _) hl)
  rw [← hfl] at FC
  clear hT hg hd hs hl K M X1 Y1 S1 hw1 hfl
  go_enter Tryz.func28, Tryz.ntmps28
  go_upto_region 1 with fail
  rw [← HW.out]
  by_cases hm : most < 1
  · have h0 : most.toNat = 0 := by omega
    go_wp2_with fail
    go_ret
    refine ⟨_, rfl, ?_, E1.out⟩
    rw [WL.out, h0]
    exact ⟨[], rfl, World.ownsRow_nil _ _ _ _, fun x h => by cases h⟩
  · go_wp2_with fail
    refine FC.out.mono ?_
    rintro e w2 ⟨v2, rfl, hO2, hb2⟩
    have B2 := Lib.hid (E1.out.trans hb2)
    obtain ⟨mo, h1, h2, h3⟩ := hO2
    have O2 := Lib.hid (show EntsOwn w2 w.heap.size v2 fl from ⟨mo, h1, own_lowT h2 E1.out.size, h3⟩)
    obtain ⟨q, hq⟩ : ∃ q : Nat, q = min fl.length most.toNat := ⟨_, rfl⟩
    have q1 : min (fl.length : Int) most = (q : Int) := by omega
    have WT := Lib.hid (show fl.take most.toNat = fl.take q by
      rw [hq]
      rcases Nat.le_total fl.length most.toNat with h | h
      · rw [Nat.min_eq_left h, List.take_of_length_le h, List.take_length]
      · rw [Nat.min_eq_right h])
    rcases own_form h2 with ⟨rfl, h0, _⟩ | ⟨g, cap, rfl, _, _⟩
    · have q0 : q = 0 := by omega
      have WT0 := Lib.hid (show Sp.wlist (Sp.told o) d a most = [] by rw [WL.out, WT.out, q0]; rfl)
      rw [h0] at q1
      subst q0
      have q2 : min (0 : Int) most = 0 := by omega
      clear hb2 h1 h2 h3 hq q1
      go_wp2_with fail
      go_ret
      refine ⟨_, rfl, ?_, B2.out⟩
      rw [WT0.out]
      exact ⟨[], rfl, World.ownsRow_nil _ _ _ _, fun x h => by cases h⟩
    · obtain ⟨hnc, hcm⟩ := own_cap h2
      have b1 : (q : Int) ≤ (cap : Int) := by omega
      have b2 : q ≤ cap := by omega
      have hqn : q ≤ fl.length := by omega
      clear hb2 h1 h2 h3 hq
      go_wp2_with fail
      go_ret
      refine ⟨_, rfl, ?_, B2.out⟩
      rw [WL.out, WT.out]
      exact O2.out.take rfl q hqn
end Go.Proofs.YteiblfcehlibpaaGreatDoor
