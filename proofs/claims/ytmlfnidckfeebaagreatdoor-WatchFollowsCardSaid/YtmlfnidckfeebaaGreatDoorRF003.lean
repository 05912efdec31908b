/- Walks: leaves, one behind the other. Walks: leaves joined; whether one of them covers a version. Walks: why a leaf may not be. Walks: why a leaf may not be. Walks: the reference's vectors. Walks: versions that are the same; those that live. What a number's bytes are: plain. -/
import Derived.Shelf.Abstract
import Derived.Laws.BitsLemmas
import Derived.Test.YtmlfnidckfeebaaGreatDoorRF002
namespace Go.Proofs.YtmlfnidckfeebaaGreatDoor
open Go.RowKit
attribute [local go_sem] yUpon
theorem appVer : AppStat Tryz.prog 41 71 5 64 := by
  refine ⟨Tryz.underlying41, by decide, by decide, ?_⟩
  obtain ⟨i0, hi, hz0, hz1, hz2⟩ := info_parts (show (Tryz.prog.info? 71).map (fun i => (i.zero, i.size, i.bytes)) = some (some (.agg #[.int .i64 0, .int .i64 0, .slice none 0 0, .bool false, .string ⟨#[]⟩]), 5, 64) by kernel_rfl)
  exact ⟨i0, _, hi, hz0, hz1, hz2, rfl⟩
def OwnVers (w : World) (B : Nat) (v : Value) (l : List Sp.Ver) : Prop := ∃ m : List (Option Addr × Nat × Sp.Ver), m.map (·.2.2) = l ∧ w.ownsRow B 71 5 v l.length (versC m) ∧ ∀ x ∈ m, Past w x.1 x.2.2
theorem OwnVers.read {w : World} {B : Nat} {v : Value} {l : List Sp.Ver} (h : OwnVers w B v l) : ∃ A cap, v = .slice A l.length cap ∧ Vers w A l := by
  obtain ⟨m, h1, h2, h3⟩ := h
  obtain ⟨A, cap, hv, hc⟩ := own_read h2
  exact ⟨A, cap, hv, m, h1, hc, h3⟩
theorem versC_one (m : List (Option Addr × Nat × Sp.Ver)) : ∀ u ∈ versC m, u.oneCell' = true := by
  induction m with
  | nil => intro u hu; cases hu
  | cons x r ih =>
    intro u hu
    rw [versC, List.mem_append] at hu
    rcases hu with hu | hu
    · simp at hu
      rcases hu with rfl | rfl | rfl | rfl | rfl <;> rfl
    · exact ih u hu
def VV (w : World) (A : Option Addr) (ls : List (List Sp.Ver)) : Prop := ∃ cs : List Value, cs.length = ls.length ∧ Cells w A cs ∧ ∀ i (h : i < ls.length), ∃ A' cap', cs[i]? = some (.slice A' ls[i].length cap') ∧ Vers w A' ls[i]
theorem VV.ext {w w' : World} {A : Option Addr} {l : List (List Sp.Ver)} (h : VV w A l) (e : Ext w w') : VV w' A l := by
  obtain ⟨cs, h1, h2, h3⟩ := h
  exact ⟨cs, h1, h2.ext e, fun i hi => by obtain ⟨A', c', a, b⟩ := h3 i hi; exact ⟨A', c', a, b.ext e⟩⟩
theorem VV.at {w : World} {A : Option Addr} {ls : List (List Sp.Ver)} (h : VV w A ls) (k : Nat) (hk : k < ls.length) : ∃ g o A' cap', A = some ⟨g, o, none⟩ ∧ w.cell? ⟨g, o + k, none⟩ = some (.slice A' ls[k].length cap') ∧ Vers w A' ls[k] := by
  obtain ⟨cs, h1, h2, h3⟩ := h
  obtain ⟨g, o, hA, hc⟩ := h2 (by rintro rfl; simp at h1; omega)
  obtain ⟨A', c', a, b⟩ := h3 k hk
  exact ⟨g, o, A', c', hA, hc _ _ a, b⟩
theorem VV.one {w : World} {l : List Sp.Ver} {A : Option Addr} {cap g : Nat} {t : TypeId} (h : Vers w A l) (hg : w.heap.size = g) : VV (w.alloc (.cells #[.slice A l.length cap] t)) (some ⟨g, 0, none⟩) [l] := by
  subst hg
  exact ⟨[.slice A l.length cap], rfl, fun _ => ⟨_, _, rfl, fun i u hi => by rw [Nat.zero_add, cell_of_row _ w.heap.size i _ t (0, 0) (heap_alloc_new w _)]; simpa using hi⟩, fun i hi => by
    obtain rfl : i = 0 := by simpa using hi
    exact ⟨A, cap, rfl, h.ext (Ext.alloc _ _)⟩⟩
theorem VV.two {w : World} {l m : List Sp.Ver} {A B : Option Addr} {cap cap' g : Nat} {t : TypeId} (h : Vers w A l) (h' : Vers w B m) (hg : w.heap.size = g) : VV (w.alloc (.cells #[.slice A l.length cap, .slice B m.length cap'] t)) (some ⟨g, 0, none⟩) [l, m] := by
  subst hg
  exact ⟨[.slice A l.length cap, .slice B m.length cap'], rfl, fun _ => ⟨_, _, rfl, fun i u hi => by rw [Nat.zero_add, cell_of_row _ w.heap.size i _ t (0, 0) (heap_alloc_new w _)]; simpa using hi⟩, fun i hi => by
    rcases i with _ | _ | i
    · exact ⟨A, cap, rfl, h.ext (Ext.alloc _ _)⟩
    · exact ⟨B, cap', rfl, h'.ext (Ext.alloc _ _)⟩
    · simp at hi; omega⟩
def Grown (w : World) (e : Ending) (w' : World) : Prop := ∃ v, e = .returned v ∧ w'.ownsRow w.heap.size 71 5 v 0 [] ∧ Ext w w'
set_option maxRecDepth 100000 in
set_option maxHeartbeats 2000000 in
theorem vergrow_calls (n : Nat) (w : World) (hn : n ≤ 1000000) : Calls Tryz.prog 160 #[.slice none 0 0, .int .i64 n] w (Grown w) := by
  by_cases h0 : n = 0
  · subst h0
    go_enter Tryz.func160, Tryz.ntmps160
    go_wp2
    go_ret
    exact ⟨_, rfl, ⟨by simp, .inl ⟨rfl, rfl⟩⟩, Ext.refl _⟩
  · have b0 : decide ((n : Int) < 0) = false := by rw [decide_eq_false_iff_not]; omega
    have b1 : decide ((0 : Int) < n) = true := by rw [decide_eq_true_iff]; omega
    have w1 : IntKind.i64.wrap (n : Int) = n := IntWalk.i64_in _ (by omega)
    have hpos : 0 < n := by omega
    clear h0
    go_enter Tryz.func160, Tryz.ntmps160
    go_wp2_with (at_builtin; refine app_zeros appVer Tryz.underlying3 rfl _ _ rfl n hpos rfl rfl (by omega) ?_; intro g cap w2 hg hown hnc hcm hb)
    go_ret
    exact ⟨_, rfl, hown, hb⟩
theorem flat_take {α} (ls : List (List α)) (k : Nat) (h : k < ls.length) : (ls.take (k + 1)).flatten = (ls.take k).flatten ++ ls[k] := by
  rw [List.take_succ_eq_append_getElem h, List.flatten_append]; simp
theorem flat_le {α} (ls : List (List α)) (k : Nat) : ((ls.take k).flatten).length ≤ ls.flatten.length := by
  conv => rhs; rw [← List.take_append_drop k ls]
  rw [List.flatten_append, List.length_append]; omega
def ToldVers (w : World) (l : List Sp.Ver) (e : Ending) (w' : World) : Prop := ∃ v, e = .returned v ∧ OwnVers w' w.heap.size v l ∧ Ext w w'
set_option maxRecDepth 100000 in
set_option maxHeartbeats 4000000 in
theorem verconcat_calls (ls : List (List Sp.Ver)) (A : Option Addr) (cap : Nat) (w : World) (h : VV w A ls) (hl : ls.length ≤ 1000000) (hs : ls.flatten.length ≤ 1000000) :
    Calls Tryz.prog 90 #[.slice A ls.length cap] w (ToldVers w ls.flatten) := by
  go_enter Tryz.func90, Tryz.ntmps90
  go_wp2
  go_loopw [3, 11] (fun v3 v11 wr => ∃ k : Nat, k ≤ ls.length ∧ v11 = .int .i64 k ∧ v3 = .int .i64 ((ls.take k).flatten.length : Nat) ∧ w = wr) (fun _ v11 _ => ls.length - (intOf v11).toNat)
  case atStart => exact ⟨0, Nat.zero_le _, rfl, rfl, rfl⟩
  case round =>
    obtain ⟨k, hk, rfl, rfl, rfl⟩ := hrel
    by_cases hlt : k < ls.length
    · obtain ⟨g, o, A', c', rfl, c1, hv⟩ := h.at k hlt
      have st := flat_take ls k hlt
      have le1 := flat_le ls (k + 1)
      rw [st, List.length_append] at le1
      obtain ⟨n, hn⟩ : ∃ n, n = (ls.take k).flatten.length := ⟨_, rfl⟩
      have F := Lib.hid (show (ls.take (k + 1)).flatten.length = n + ls[k].length by rw [st, List.length_append, hn])
      rw [← hn] at le1 ⊢
      have b1 : decide ((n : Int) + (ls[k].length : Int) < 0) = false := by rw [decide_eq_false_iff_not]; omega
      clear st hv hn
      go_wp2_with fail
      go_roundw
      case rel => exact ⟨k + 1, by omega, by go_num, by rw [F.out]; go_num, trivial⟩
      case measure => simp [intOf]; omega
    · obtain rfl : k = ls.length := by omega
      rw [List.take_length]
      have G := Lib.hid (vergrow_calls ls.flatten.length w hs)
      obtain ⟨n, hn⟩ : ∃ n, n = ls.flatten.length := ⟨_, rfl⟩
      rw [← hn] at G ⊢
      have HN := Lib.hid hn
      clear hn
      go_wp2_with fail
      refine G.out.mono ?_
      rintro e w1 ⟨v, rfl, hown, hb⟩
      have O1 := Lib.hid hown
      have B1 := Lib.hid hb
      clear hown hb
      go_wp2_with fail
      go_loopw [6, 27] (fun v6 v27 wr => ∃ k : Nat, k ≤ ls.length ∧ v27 = .int .i64 k ∧ (∃ m : List (Option Addr × Nat × Sp.Ver), m.map (·.2.2) = (ls.take k).flatten ∧ wr.ownsRow w.heap.size 71 5 v6 (ls.take k).flatten.length (versC m) ∧ ∀ x ∈ m, Past w x.1 x.2.2) ∧ Ext w wr) (fun _ v27 _ => ls.length - (intOf v27).toNat)
      case atStart => exact ⟨0, Nat.zero_le _, rfl, ⟨[], by simp, by simpa [versC] using O1.out, fun _ h => by cases h⟩, B1.out⟩
      case round =>
        obtain ⟨k, hk, rfl, hO, hb⟩ := hrel
        by_cases hlt : k < ls.length
        · obtain ⟨g, o, A', c', rfl, c1, m2, hm2, hc2, hp2⟩ := h.at k hlt
          replace hc2 := hc2.ext hb
          replace c1 := hb.cell c1
          obtain ⟨m1, hm1, hown, hp1⟩ := hO
          have le1 := flat_le ls (k + 1)
          have st := flat_take ls k hlt
          rw [st, List.length_append] at le1
          have ST := Lib.hid st
          have HM := Lib.hid hm1
          have HM2 := Lib.hid hm2
          have HO := Lib.hid hown
          have L2 := Lib.hid (show (versC m2).length = ls[k].length * 5 by rw [versC_len, ← hm2, List.length_map])
          clear st hm1 hm2 hown
          go_wp2_with (at_builtin; refine app_cells appVer rfl _ _ rfl w.heap.size _ _ _ rfl HO.out A' ls[k].length c' (versC m2) rfl L2.out hc2 (versC_one m2) (by have := HN.out; omega) hb.size ?_; intro v7 w7 hown7 hgr7 hb7; have OW := Lib.hid hown7; have BB := Lib.hid hb7; clear hown7 hgr7 hb7)
          go_roundw
          case rel =>
            refine ⟨k + 1, by omega, by go_num, ⟨m1 ++ m2, ?_, ?_, ?_⟩, BB.out.from hb⟩
            · rw [List.map_append, HM.out, HM2.out, ST.out]
            · rw [versC_append, ST.out, List.length_append]; exact OW.out
            · intro x hx
              rcases List.mem_append.1 hx with h1 | h1
              · exact hp1 x h1
              · exact hp2 x h1
          case measure => simp [intOf]; omega
        · obtain rfl : k = ls.length := by omega
          rw [List.take_length] at hO
          go_wp2_with fail
          go_ret
          obtain ⟨m, h1, h2, h3⟩ := hO
          exact ⟨_, rfl, ⟨m, h1, h2, fun x hx => (h3 x hx).ext hb⟩, hb⟩
end Go.Proofs.YtmlfnidckfeebaaGreatDoor
namespace Go.Proofs.YtmlfnidckfeebaaGreatDoor
open Go.RowKit Go.Shelf
attribute [local go_sem] yUpon
theorem eg11 : ∀ args w, (callFunc 162 args).run Tryz.prog w = .ok (.enter 162 args) w := enters_of Tryz.func162 (by kernel_rfl) rfl
theorem eg1 : ∀ args w, (callFunc 161 args).run Tryz.prog w = .ok (.enter 161 args) w := enters_of Tryz.func161 (by kernel_rfl) rfl
set_option maxRecDepth 100000 in
set_option maxHeartbeats 4000000 in
theorem cov1_calls (ls : List (List Sp.Ver)) (v : Sp.Ver) (A B : Option Addr) (cap cap' g : Nat) (w : World) (h : VV w A ls) (hl : ls.length ≤ 1000000) (hs : ls.flatten.length ≤ 1000000) (hg : w.cell? ⟨g, 0, none⟩ = some (.slice A ls.length cap)) (hv : Past w B v) :
    Calls Tryz.prog 161 #[verV B cap' v, .pointer (some ⟨g, 0, none⟩)] w fun e w' => e = .returned (.bool (Sp.covered ls.flatten v)) ∧ Ext w w' := by
  obtain ⟨W0, hW0⟩ : ∃ W0, W0 = w.alloc (.cells (verC B cap' v) 71) := ⟨_, rfl⟩
  have HB := Lib.hid (show isBlk W0 w.heap.size 71 (verC B cap' v) by rw [hW0]; exact box_at _ _ _)
  have E0 := Lib.hid (show Ext w W0 by rw [hW0]; exact Ext.alloc _ _)
  have HW := Lib.hid hW0.symm
  have c0 := Ext.cell (Ext.alloc w (.cells (verC B cap' v) 71)) hg
  have CC := Lib.hid (verconcat_calls ls A cap W0 (h.ext E0.out) hl hs)
  have HV := Lib.hid (hv.ext E0.out)
  have CT := Lib.hid fun W (e : Ext W0 W) A2 cap2 (h2 : Vers W A2 ls.flatten) => vercont_calls 162 #[.pointer (some ⟨w.heap.size, 0, none⟩)] (fun x => Sp.covers x v) ls.flatten A2 cap2 W h2 (by omega) eg11
    (fun W2 A3 cap3 x _ e2 hx => cov11_calls x v A3 cap3 w.heap.size W2 hx ⟨B, cap', (HB.out.below (e.trans e2)).ver, HV.out.ext (e.trans e2)⟩)
  obtain ⟨fl, hfl⟩ : ∃ fl, fl = ls.flatten := ⟨_, rfl⟩
  rw [← hfl] at CC CT ⊢
  clear h hW0 hg hv hfl hs
  go_enter Tryz.func161, Tryz.ntmps161
  go_wp2_with fail
  rw [HW.out]
  refine CC.out.mono ?_
  rintro e w1 ⟨x, rfl, hO, hb1⟩
  obtain ⟨A2, cap2, rfl, hV2⟩ := hO.read
  have C2 := Lib.hid (CT.out w1 hb1 A2 cap2 hV2)
  clear hO hV2
  go_wp2_with fail
  refine C2.out.mono ?_
  rintro e w2 ⟨rfl, hb2⟩
  go_wp2
  go_ret
  exact ⟨rfl, E0.out.trans (hb1.trans hb2)⟩
def CovFn (w : World) (ls : List (List Sp.Ver)) (e : Ending) (w' : World) : Prop := ∃ g, e = .returned (.func (.func 161) #[] #[.pointer (some ⟨g, 0, none⟩)]) ∧ Ext w w' ∧
  ∃ A cap, w'.cell? ⟨g, 0, none⟩ = some (.slice A ls.length cap) ∧ VV w' A ls
set_option maxRecDepth 100000 in
set_option maxHeartbeats 4000000 in
theorem covered_calls (ls : List (List Sp.Ver)) (A : Option Addr) (cap : Nat) (w : World) (h : VV w A ls) :
    Calls Tryz.prog 91 #[.slice A ls.length cap] w (CovFn w ls) := by
  have HH := Lib.hid h
  clear h
  go_enter Tryz.func91, Tryz.ntmps91
  go_wp2
  go_ret
  exact ⟨_, rfl, Ext.alloc _ _, A, cap, by rw [cell_of_row _ w.heap.size 0 _ _ (0, 0) (heap_alloc_new w _)]; rfl, HH.out.ext (Ext.alloc _ _)⟩
namespace Sp
def lastP (l : List Ver) (k : Nat) : Option Int := if k = 0 then none else (l[k - 1]?).map (·.dot.1)
theorem lgo_step (l : List Ver) (k : Nat) (h : k < l.length) : lgo (lastP l k) (l.drop k) = if vercheck l[k] ≠ 0 then vercheck l[k] else if (∃ x, lastP l k = some x ∧ l[k].dot.1 ≤ x) then 8 else lgo (lastP l (k + 1)) (l.drop (k + 1)) := by
  rw [List.drop_eq_getElem_cons h, lgo]
  have : lastP l (k + 1) = some l[k].dot.1 := by unfold lastP; rw [if_neg (by omega)]; simp [h]
  rw [this]
theorem lastP_zero (l : List Ver) (d : Int) : ¬ ∃ x, lastP l 0 = some x ∧ d ≤ x := by
  rintro ⟨x, h, _⟩; cases h
theorem lastP_pos (l : List Ver) (k : Nat) (d : Int) (h0 : 0 < k) (h : k - 1 < l.length) : (∃ x, lastP l k = some x ∧ d ≤ x) ↔ d ≤ l[k - 1].dot.1 := by
  unfold lastP
  rw [if_neg (by omega), List.getElem?_eq_getElem h]
  simp
end Sp
set_option maxRecDepth 100000 in
set_option maxHeartbeats 4000000 in
theorem leaf_calls (l : List Sp.Ver) (A : Option Addr) (cap : Nat) (w : World) (h : Vers w A l) :
    Calls Tryz.prog 88 #[.slice A l.length cap] w fun e w' => e = .returned (.int .i64 (Sp.leaf l)) ∧ Ext w w' := by
  by_cases h64 : 64 < l.length
  · have F := Lib.hid (show Sp.leaf l = 2 from if_pos h64)
    have b1 : decide ((64 : Int) < (l.length : Int)) = true := by rw [decide_eq_true_iff]; omega
    clear h64
    go_enter Tryz.func88, Tryz.ntmps88
    go_wp2
    go_ret
    exact ⟨ret_int F.out.symm, Ext.refl _⟩
  · have F := Lib.hid (show Sp.leaf l = if Sp.lgo none l ≠ 0 then Sp.lgo none l else if (l.any fun v => Sp.covered l v) = true then 7 else 0 from if_neg h64)
    have b1 : decide ((64 : Int) < (l.length : Int)) = false := by rw [decide_eq_false_iff_not]; omega
    have hl : l.length ≤ 64 := by omega
    clear h64
    go_enter Tryz.func88, Tryz.ntmps88
    go_wp2
    go_loopw [11] (fun v11 wr => ∃ k : Nat, k ≤ l.length ∧ v11 = .int .i64 k ∧ Sp.lgo none l = Sp.lgo (Sp.lastP l k) (l.drop k) ∧ Ext w wr) (fun v11 _ => l.length - (intOf v11).toNat)
    case atStart => exact ⟨0, Nat.zero_le _, rfl, rfl, Ext.refl _⟩
    case round =>
      obtain ⟨k, hk, rfl, hv, hb⟩ := hrel
      by_cases hlt : k < l.length
      · obtain ⟨g, o, rfl, hc⟩ := (h.ext hb).at (by omega)
        obtain ⟨A', c', ⟨c0, c1, c2, c3, c4⟩, hp⟩ := hc k hlt
        have HC := Lib.hid hc
        rw [Sp.lgo_step l k hlt] at hv
        have HV := Lib.hid hv
        have HB := Lib.hid (box_at wr (verC A' c' l[k]) 71)
        have VC := Lib.hid (vercheck_calls l[k] A' c' _ (hp.ext (Ext.alloc wr (.cells (verC A' c' l[k]) 71))))
        clear hv hc hp
        go_wp2_with fail
        refine VC.out.mono ?_
        rintro e w1 ⟨rfl, hb1⟩
        have B1 := Lib.hid ((Ext.alloc _ _).trans hb1)
        have z1 := Lib.hid (HB.out.below hb1)
        clear hb1
        by_cases hz : Sp.vercheck l[k] = 0
        · have b2 : (Sp.vercheck l[k] != 0) = false := by simpa using hz
          by_cases h0 : k = 0
          · subst h0
            have b3 : decide ((0 : Int) < 0) = false := by decide
            go_wp2_with fail
            refine wp_region_det (fun W => Ext w1 W) (by kernel_rfl) (by kernel_rfl) (Below.refl _ _).drew ?_
            repeat (first
              | (refine det_step (fun K hK => ?_)
                 apply Exists.intro
                 refine ⟨Or.inl ⟨rfl, fun W hS => ?_⟩, ?_⟩
                 · replace hS : Ext w1 W := hS
                   skip
                   go_simp
                   first
                   | exact rfl
                   | exact ⟨rfl, hS⟩
                   | (fail)
                 go_simp
                 refine hK _ ?_
                 clear hK K)
              | (refine det_step (fun K hK => ?_); refine det_no' rfl ?_; go_simp; refine hK _ ?_; clear hK K))
            refine det_nil ?_
            intro W9 hS
            replace hS : Ext _ W9 := hS
            go_wp2_with fail
            go_roundw
            case rel => exact ⟨1, by omega, rfl, by rw [HV.out, if_neg (by simpa using hz), if_neg (Sp.lastP_zero _ _)], hb.trans (B1.out.trans hS)⟩
            case measure => simp [intOf]; omega
          · have b3 : decide (0 < k) = true := by rw [decide_eq_true_iff]; omega
            have h0' : 0 < k := by omega
            obtain ⟨A2, c2', ⟨d0, d1, d2, d3, d4⟩, hp2⟩ := HC.out (k - 1) (by omega)
            have w1' : IntKind.i64.wrap ((k : Int) - 1) = (k : Int) - 1 := IntWalk.i64_in _ (by omega)
            have i1 : (0 : Int) ≤ (k : Int) - 1 := by omega
            have i2 : (k : Int) - 1 < l.length := by omega
            have i4 : (1 : Int) ≤ k := by omega
            have i5 : 1 ≤ k := by omega
            have i3 : ((k : Int) - 1).toNat = k - 1 := by omega
            have e0 := B1.out.cell d0
            clear d0 d1 d2 d3 d4 hp2
            go_wp2_with fail
            refine wp_region_det (fun W => Ext w1 W) (by kernel_rfl) (by kernel_rfl) (Below.refl _ _).drew ?_
            repeat (first
              | (refine det_step (fun K hK => ?_)
                 apply Exists.intro
                 refine ⟨Or.inl ⟨rfl, fun W hS => ?_⟩, ?_⟩
                 · replace hS : Ext w1 W := hS
                   have f1 := hS.cell e0; have f2 := ((z1.out.below hS).cell 0).trans rfl
                   go_simp
                   first
                   | exact rfl
                   | exact ⟨rfl, hS⟩
                   | (fail)
                 go_simp
                 refine hK _ ?_
                 clear hK K)
              | (refine det_step (fun K hK => ?_); refine det_no' rfl ?_; go_simp; refine hK _ ?_; clear hK K))
            refine det_nil ?_
            intro W9 hS
            replace hS : Ext _ W9 := hS
            go_wp2_with fail
            · go_ret
              have hle : l[k].dot.1 ≤ l[k - 1].dot.1 := by assumption
              have e8 : Sp.lgo none l = 8 := by rw [HV.out, if_neg (by simpa using hz), if_pos ((Sp.lastP_pos l k _ h0' (by omega)).2 hle)]
              exact ⟨ret_int (by rw [F.out, e8]; rfl), hb.trans (B1.out.trans hS)⟩
            · have hgt : ¬ l[k].dot.1 ≤ l[k - 1].dot.1 := by omega
              go_roundw
              case rel => exact ⟨k + 1, by omega, by go_num, by rw [HV.out, if_neg (by simpa using hz), if_neg (fun e => hgt ((Sp.lastP_pos l k _ h0' (by omega)).1 e))], hb.trans (B1.out.trans hS)⟩
              case measure => simp [intOf]; omega
        · have b2 : (Sp.vercheck l[k] != 0) = true := by simpa using hz
          go_wp2_with fail
          go_ret
          have e8 : Sp.lgo none l = Sp.vercheck l[k] := by rw [HV.out, if_pos hz]
          exact ⟨ret_int (by rw [F.out, e8, if_pos hz]), hb.trans B1.out⟩
      · obtain rfl : k = l.length := by omega
        rw [List.drop_length, Sp.lgo] at hv
        have HV := Lib.hid hv
        clear hv
        obtain ⟨W1, hW1⟩ : ∃ W1, W1 = wr.alloc (.cells #[.slice A l.length cap] 41) := ⟨_, rfl⟩
        have CF := Lib.hid (covered_calls [l] (some ⟨wr.heap.size, 0, none⟩) 1 W1 (by rw [hW1]; exact VV.one (h.ext hb) rfl))
        have E1 := Lib.hid (show Ext w W1 by rw [hW1]; exact hb.trans (Ext.alloc _ _))
        have HW := Lib.hid hW1.symm
        clear hW1
        go_wp2_with fail
        rw [HW.out]
        refine CF.out.mono ?_
        rintro e w2 ⟨g, rfl, hb2, A2, cap2, hg, hvv⟩
        have CT := Lib.hid (vercont_calls 161 #[.pointer (some ⟨g, 0, none⟩)] (fun v => Sp.covered l v) l A cap w2 ((h.ext E1.out).ext hb2) (by omega) eg1
          (fun W A' cap' v _ e hp => by
            have := cov1_calls [l] v A2 A' cap2 cap' g W (hvv.ext e) (by simp) (by simp; omega) (e.cell hg) hp
            simpa using this))
        clear hg hvv
        go_wp2_with fail
        refine CT.out.mono ?_
        rintro e w3 ⟨rfl, hb3⟩
        go_wp2
        · go_ret
          exact ⟨ret_int (by rw [F.out, HV.out]; simp_all), E1.out.trans (hb2.trans hb3)⟩
        · go_ret
          exact ⟨ret_int (by rw [F.out, HV.out]; simp_all), E1.out.trans (hb2.trans hb3)⟩
end Go.Proofs.YtmlfnidckfeebaaGreatDoor
namespace Go.Proofs.YtmlfnidckfeebaaGreatDoor
open Go.RowKit
attribute [local go_sem] yUpon
namespace Sp
def vlast (l : List Dot) (k : Nat) : Int := if k = 0 then -1 else ((l[k - 1]?).map (·.1)).getD 0
theorem vgo_step (l : List Dot) (k : Nat) (h : k < l.length) : vgo (vlast l k) (l.drop k) = if dot l[k] ≠ 0 then dot l[k] else if l[k].1 ≤ vlast l k then 8 else vgo (vlast l (k + 1)) (l.drop (k + 1)) := by
  rw [List.drop_eq_getElem_cons h, vgo]
  have : vlast l (k + 1) = l[k].1 := by unfold vlast; rw [if_neg (by omega)]; simp [h]
  rw [this]
theorem vlast_pos (l : List Dot) (k : Nat) (h0 : 0 < k) (h : k - 1 < l.length) : vlast l k = l[k - 1].1 := by
  unfold vlast
  rw [if_neg (by omega), List.getElem?_eq_getElem h]
  rfl
end Sp
set_option maxRecDepth 100000 in
set_option maxHeartbeats 2000000 in
theorem rdot_calls (d : Sp.Dot) (w : World) : Calls Tryz.prog 211 #[dotV d] w fun e w' => e = .returned (.int .i64 (Sp.dot d)) ∧ Ext w w' := by
  go_enter Tryz.func211, Tryz.ntmps211
  go_wp2
  all_goals
    go_ret
    refine ⟨ret_int ?_, Ext.alloc _ _⟩
    unfold Sp.dot
    (repeat' split) <;> omega
set_option maxRecDepth 100000 in
set_option maxHeartbeats 4000000 in
theorem rvcheck_calls (l : List Sp.Dot) (A : Option Addr) (cap : Nat) (w : World) (h : Dots w A l) (hl : l.length ≤ 140737488351232) :
    Calls Tryz.prog 139 #[.slice A l.length cap] w fun e w' => e = .returned (.int .i64 (Sp.vcheck l)) ∧ Ext w w' := by
  go_enter Tryz.func139, Tryz.ntmps139
  go_wp2
  go_loopw [3] (fun v3 wr => ∃ k : Nat, k ≤ l.length ∧ v3 = .int .i64 k ∧ Sp.vcheck l = Sp.vgo (Sp.vlast l k) (l.drop k) ∧ Ext w wr) (fun v3 _ => l.length - (intOf v3).toNat)
  case atStart => exact ⟨0, Nat.zero_le _, rfl, rfl, Ext.refl _⟩
  case round =>
    obtain ⟨k, hk, rfl, hv, hb⟩ := hrel
    by_cases hlt : k < l.length
    · obtain ⟨g, o, rfl, hc⟩ := (h.ext hb).at (by omega)
      obtain ⟨c1, c2⟩ := hc k hlt
      have HC := Lib.hid hc
      rw [Sp.vgo_step l k hlt] at hv
      have HV := Lib.hid hv
      clear hv hc
      go_wp2_with fail
      refine (rdot_calls l[k] wr).mono ?_
      rintro e w1 ⟨rfl, hb1⟩
      have B1 := Lib.hid hb1
      have f0 := hb1.cell c1
      clear hb1 c1 c2
      by_cases hz : Sp.dot l[k] = 0
      · have b2 : (Sp.dot l[k] != 0) = false := by simpa using hz
        by_cases h0 : k = 0
        · subst h0
          have b3 : decide ((0 : Int) < 0) = false := by decide
          go_wp2_with fail
          refine wp_region_det (fun W => Ext w1 W) (by kernel_rfl) (by kernel_rfl) (Below.refl _ _).drew ?_
          repeat (first
            | (refine det_step (fun K hK => ?_)
               apply Exists.intro
               refine ⟨Or.inl ⟨rfl, fun W hS => ?_⟩, ?_⟩
               · replace hS : Ext w1 W := hS
                 skip
                 go_simp
                 first
                 | exact rfl
                 | exact ⟨rfl, hS⟩
                 | (fail)
               go_simp
               refine hK _ ?_
               clear hK K)
            | (refine det_step (fun K hK => ?_); refine det_no' rfl ?_; go_simp; refine hK _ ?_; clear hK K))
          refine det_nil ?_
          intro W9 hS
          replace hS : Ext _ W9 := hS
          go_wp2_with fail
          have hp := (Sp.dot_ok.1 hz).1
          go_roundw
          case rel => exact ⟨1, by omega, rfl, by rw [HV.out, if_neg (by simpa using hz), if_neg (by show ¬ _ ≤ (-1 : Int); omega)], hb.trans (B1.out.trans hS)⟩
          case measure => simp [intOf]; omega
        · have b3 : decide (0 < k) = true := by rw [decide_eq_true_iff]; omega
          have h0' : 0 < k := by omega
          obtain ⟨d0, d1⟩ := HC.out (k - 1) (by omega)
          have w1' : IntKind.i64.wrap ((k : Int) - 1) = (k : Int) - 1 := IntWalk.i64_in _ (by omega)
          have i1 : (0 : Int) ≤ (k : Int) - 1 := by omega
          have i2 : (k : Int) - 1 < l.length := by omega
          have i4 : (1 : Int) ≤ k := by omega
          have i5 : 1 ≤ k := by omega
          have i3 : ((k : Int) - 1).toNat = k - 1 := by omega
          have e0 := B1.out.cell d0
          have VL := Lib.hid (Sp.vlast_pos l k h0' (by omega))
          clear d0 d1
          go_wp2_with fail
          refine wp_region_det (fun W => Ext w1 W) (by kernel_rfl) (by kernel_rfl) (Below.refl _ _).drew ?_
          repeat (first
            | (refine det_step (fun K hK => ?_)
               apply Exists.intro
               refine ⟨Or.inl ⟨rfl, fun W hS => ?_⟩, ?_⟩
               · replace hS : Ext w1 W := hS
                 have f1 := hS.cell e0; have f2 := hS.cell f0
                 go_simp
                 first
                 | exact rfl
                 | exact ⟨rfl, hS⟩
                 | (fail)
               go_simp
               refine hK _ ?_
               clear hK K)
            | (refine det_step (fun K hK => ?_); refine det_no' rfl ?_; go_simp; refine hK _ ?_; clear hK K))
          refine det_nil ?_
          intro W9 hS
          replace hS : Ext _ W9 := hS
          go_wp2_with fail
          · go_ret
            have hle : l[k].1 ≤ l[k - 1].1 := by assumption
            exact ⟨ret_int (by rw [HV.out, if_neg (by simpa using hz), VL.out, if_pos hle]), hb.trans (B1.out.trans hS)⟩
          · have hgt : ¬ l[k].1 ≤ l[k - 1].1 := by omega
            go_roundw
            case rel => exact ⟨k + 1, by omega, by go_num, by rw [HV.out, if_neg (by simpa using hz), VL.out, if_neg hgt], hb.trans (B1.out.trans hS)⟩
            case measure => simp [intOf]; omega
      · have b2 : (Sp.dot l[k] != 0) = true := by simpa using hz
        go_wp2_with fail
        go_ret
        exact ⟨ret_int (by rw [HV.out, if_pos hz]), hb.trans B1.out⟩
    · obtain rfl : k = l.length := by omega
      rw [List.drop_length, Sp.vgo] at hv
      have HV := Lib.hid hv
      clear hv
      go_wp2
      go_ret
      exact ⟨ret_int HV.out.symm, hb⟩
set_option maxRecDepth 100000 in
set_option maxHeartbeats 4000000 in
theorem rvget_calls (l : List Sp.Dot) (A : Option Addr) (cap : Nat) (p : Int) (w : World) (h : Dots w A l) (hl : l.length ≤ 140737488351232) :
    Calls Tryz.prog 267 #[.slice A l.length cap, .int .i64 p] w fun e w' => e = .returned (.int .i64 (Sp.vget l p)) ∧ Ext w w' := by
  have C := Lib.hid (rvcheck_calls l A cap w h hl)
  have HH := Lib.hid h
  clear h
  by_cases hz : Sp.vcheck l = 0
  · have F := Lib.hid (show Sp.vget l p = Sp.vfind p l from if_neg (by simpa using hz))
    rw [hz] at C
    clear hz
    go_enter Tryz.func267, Tryz.ntmps267
    go_wp2_with fail
    refine C.out.mono ?_
    rintro e w1 ⟨rfl, hb1⟩
    have B1 := Lib.hid hb1
    clear hb1
    go_wp2
    go_loopw [5] (fun v5 wr => ∃ k : Nat, k ≤ l.length ∧ v5 = .int .i64 k ∧ Sp.vfind p l = Sp.vfind p (l.drop k) ∧ Ext w wr) (fun v5 _ => l.length - (intOf v5).toNat)
    case atStart => exact ⟨0, Nat.zero_le _, rfl, rfl, B1.out⟩
    case round =>
      obtain ⟨k, hk, rfl, hv, hb⟩ := hrel
      by_cases hlt : k < l.length
      · obtain ⟨g, o, rfl, hc⟩ := (HH.out.ext hb).at (by omega)
        obtain ⟨c1, c2⟩ := hc k hlt
        rw [List.drop_eq_getElem_cons hlt, Sp.vfind] at hv
        have HV := Lib.hid hv
        clear hv hc
        go_wp2
        · go_ret
          exact ⟨ret_int (by rw [F.out, HV.out]; simp_all), hb⟩
        · go_roundw
          case rel => exact ⟨k + 1, by omega, by go_num, by rw [HV.out]; simp_all, hb⟩
          case measure => simp [intOf]; omega
      · obtain rfl : k = l.length := by omega
        rw [List.drop_length, Sp.vfind] at hv
        have HV := Lib.hid hv
        clear hv
        go_wp2
        go_ret
        exact ⟨ret_int (by rw [F.out, HV.out]), hb⟩
  · have F := Lib.hid (show Sp.vget l p = 0 from if_pos hz)
    have b2 : (Sp.vcheck l != 0) = true := by simpa using hz
    go_enter Tryz.func267, Tryz.ntmps267
    go_wp2_with fail
    refine C.out.mono ?_
    rintro e w1 ⟨rfl, hb1⟩
    go_wp2
    go_ret
    exact ⟨ret_int F.out.symm, hb1⟩
set_option maxRecDepth 100000 in
set_option maxHeartbeats 2000000 in
theorem rvhas_calls (l : List Sp.Dot) (A : Option Addr) (cap : Nat) (d : Sp.Dot) (w : World) (h : Dots w A l) (hl : l.length ≤ 140737488351232) :
    Calls Tryz.prog 232 #[.slice A l.length cap, dotV d] w fun e w' => e = .returned (.bool (Sp.vhas l d)) ∧ Ext w w' := by
  obtain ⟨W0, hW0⟩ : ∃ W0, W0 = w.alloc (.cells #[.int .i64 d.1, .int .i64 d.2] 68) := ⟨_, rfl⟩
  have HB := Lib.hid (show isBlk W0 w.heap.size 68 #[.int .i64 d.1, .int .i64 d.2] by rw [hW0]; exact box_at _ _ _)
  have E0 := Lib.hid (show Ext w W0 by rw [hW0]; exact Ext.alloc _ _)
  have G := Lib.hid fun W e => rvget_calls l A cap d.1 W (h.ext (E0.out.trans e)) hl
  have HW := Lib.hid hW0.symm
  clear hW0 h
  by_cases h1 : 1 ≤ d.2
  · have b1 : decide (1 ≤ d.2) = true := decide_eq_true h1
    have F := Lib.hid (show Sp.vhas l d = decide (d.2 ≤ Sp.vget l d.1) by unfold Sp.vhas; rw [b1]; rfl)
    clear h1
    go_enter Tryz.func232, Tryz.ntmps232
    go_wp2_with fail
    rw [HW.out]
    refine wp_region_det (fun W => Ext W0 W) (by kernel_rfl) (by kernel_rfl) (Below.refl _ _).drew ?_
    repeat (first
      | (refine det_step (fun K hK => ?_)
         apply Exists.intro
         refine ⟨Or.inl ⟨rfl, fun W hS => ?_⟩, ?_⟩
         · replace hS : Ext W0 W := hS
           have z := HB.out.below hS; have f0 := (z.cell 0).trans rfl; have f1 := (z.cell 1).trans rfl
           go_simp
           first
           | exact rfl
           | exact ⟨rfl, hS⟩
           | (refine (G.out W hS).mono ?_; rintro e w1 ⟨rfl, hb1⟩; exact ⟨rfl, hS.trans hb1⟩)
         go_simp
         refine hK _ ?_
         clear hK K)
      | (refine det_step (fun K hK => ?_); refine det_no' rfl ?_; go_simp; refine hK _ ?_; clear hK K))
    refine det_nil ?_
    intro W9 hS
    replace hS : Ext _ W9 := hS
    go_wp2
    go_ret
    exact ⟨by rw [F.out]; rfl, E0.out.trans hS⟩
  · have b1 : decide (1 ≤ d.2) = false := decide_eq_false h1
    have F := Lib.hid (show Sp.vhas l d = false by unfold Sp.vhas; rw [b1]; rfl)
    clear h1
    go_enter Tryz.func232, Tryz.ntmps232
    go_wp2_with fail
    rw [HW.out]
    refine wp_region_det (fun W => Ext W0 W) (by kernel_rfl) (by kernel_rfl) (Below.refl _ _).drew ?_
    repeat (first
      | (refine det_step (fun K hK => ?_)
         apply Exists.intro
         refine ⟨Or.inl ⟨rfl, fun W hS => ?_⟩, ?_⟩
         · replace hS : Ext W0 W := hS
           have z := HB.out.below hS; have f0 := (z.cell 0).trans rfl; have f1 := (z.cell 1).trans rfl
           go_simp
           first
           | exact rfl
           | exact ⟨rfl, hS⟩
           | (fail)
         go_simp
         refine hK _ ?_
         clear hK K)
      | (refine det_step (fun K hK => ?_); refine det_no' rfl ?_; go_simp; refine hK _ ?_; clear hK K))
    refine det_nil ?_
    intro W9 hS
    replace hS : Ext _ W9 := hS
    go_wp2
    go_ret
    exact ⟨by rw [F.out]; rfl, E0.out.trans hS⟩
end Go.Proofs.YtmlfnidckfeebaaGreatDoor
namespace Go.Proofs.YtmlfnidckfeebaaGreatDoor
open Go.RowKit Go.Shelf
attribute [local go_sem] yUpon
namespace Sp
theorem ver_eq (a b : Ver) : decide (a = b) = (decide (a.dot = b.dot) && (a.dead == b.dead) && (a.data == b.data) && decide (a.past = b.past)) := by
  obtain ⟨a1, a2, a3, a4⟩ := a
  obtain ⟨b1, b2, b3, b4⟩ := b
  rw [Bool.eq_iff_iff]
  simp only [decide_eq_true_eq, Bool.and_eq_true, beq_iff_eq, Ver.mk.injEq]
  constructor
  · rintro ⟨h1, h2, h3, h4⟩; exact ⟨⟨⟨h1, h3⟩, h4⟩, h2⟩
  · rintro ⟨⟨⟨h1, h3⟩, h4⟩, h2⟩; exact ⟨h1, h2, h3, h4⟩
end Sp
set_option maxRecDepth 100000 in
set_option maxHeartbeats 4000000 in
theorem samever_calls (a b : Sp.Ver) (A B : Option Addr) (cap cap' : Nat) (w : World) (h : Past w A a) (h' : Past w B b) :
    Calls Tryz.prog 145 #[verV A cap a, verV B cap' b] w fun e w' => e = .returned (.bool (decide (a = b))) ∧ Ext w w' := by
  have C := Lib.hid fun W (e : Ext w W) => vsame_calls a.past b.past A B cap cap' W (h.1.ext e) h.2 (h'.1.ext e) h'.2
  have F := Lib.hid (Sp.ver_eq a b)
  have tl := strOf_toList a.data
  have tl' := strOf_toList b.data
  have hg := dot_guard
  have hq := deq_in a.dot b.dot
  clear h h'
  by_cases h1 : a.dot = b.dot
  · by_cases h2 : a.dead = b.dead
    · by_cases h3 : a.data = b.data
      · have q1 : decide (a.dot = b.dot) = true := decide_eq_true h1
        have q2 : (a.dead == b.dead) = true := by simpa using h2
        have q3 : (a.data == b.data) = true := by simpa using h3
        rw [q1, q2, q3] at F
        clear h1 h2 h3
        go_enter Tryz.func145, Tryz.ntmps145
        go_wp2_with (go_at_call 208; refine (C.out _ ((Ext.alloc _ _).trans (Ext.alloc _ _))).mono ?_; rintro e w1 ⟨rfl, hb1⟩)
        go_ret
        exact ⟨by rw [F.out]; rfl, ((Ext.alloc _ _).trans (Ext.alloc _ _)).trans hb1⟩
      · have q1 : decide (a.dot = b.dot) = true := decide_eq_true h1
        have q2 : (a.dead == b.dead) = true := by simpa using h2
        have q3 : (a.data == b.data) = false := by simpa using h3
        rw [q1, q2, q3] at F
        clear h1 h2 h3
        go_enter Tryz.func145, Tryz.ntmps145
        go_wp2_with fail
        go_ret
        exact ⟨by rw [F.out]; rfl, (Ext.alloc _ _).trans (Ext.alloc _ _)⟩
    · have q1 : decide (a.dot = b.dot) = true := decide_eq_true h1
      have q2 : (a.dead == b.dead) = false := by simpa using h2
      rw [q1, q2] at F
      clear h1 h2
      go_enter Tryz.func145, Tryz.ntmps145
      go_wp2_with fail
      go_ret
      exact ⟨by rw [F.out]; rfl, (Ext.alloc _ _).trans (Ext.alloc _ _)⟩
  · have q1 : decide (a.dot = b.dot) = false := decide_eq_false h1
    rw [q1] at F
    clear h1
    go_enter Tryz.func145, Tryz.ntmps145
    go_wp2_with fail
    go_ret
    exact ⟨by rw [F.out]; rfl, (Ext.alloc _ _).trans (Ext.alloc _ _)⟩
set_option maxRecDepth 100000 in
set_option maxHeartbeats 4000000 in
theorem live_calls (l : List Sp.Ver) (A : Option Addr) (cap : Nat) (w : World) (h : Vers w A l) (hl : l.length ≤ 1000000) : Calls Tryz.prog 170 #[.slice A l.length cap] w (ToldVers w (Sp.live l)) := by
  go_enter Tryz.func170, Tryz.ntmps170
  go_wp2
  go_loopw [3, 8] (fun v3 v8 wr => ∃ k : Nat, k ≤ l.length ∧ v8 = .int .i64 k ∧ (∃ m : List (Option Addr × Nat × Sp.Ver), m.map (·.2.2) = Sp.live (l.take k) ∧ wr.ownsRow w.heap.size 71 5 v3 m.length (versC m) ∧ ∀ x ∈ m, Past w x.1 x.2.2) ∧ Ext w wr) (fun _ v8 _ => l.length - (intOf v8).toNat)
  case atStart => exact ⟨0, Nat.zero_le _, rfl, ⟨[], rfl, ⟨rfl, .inl ⟨rfl, rfl⟩⟩, fun _ h => by cases h⟩, Ext.refl _⟩
  case round =>
    obtain ⟨k, hk, rfl, ⟨m, hm, hown, hp⟩, hb⟩ := hrel
    by_cases hlt : k < l.length
    · obtain ⟨g, o, rfl, hc0⟩ := h.at (by omega)
      obtain ⟨A', c', hvc, hpast⟩ := hc0 k hlt
      obtain ⟨c0, c1, c2, c3, c4⟩ := hvc.ext hb
      have HC := Lib.hid hpast
      have HP := Lib.hid hp
      have ml : m.length ≤ k := by
        have := congrArg List.length hm
        rw [List.length_map] at this
        rw [this]
        unfold Sp.live
        exact Nat.le_trans (List.length_filter_le _ _) (List.length_take_le _ _)
      have st : Sp.live (l.take (k + 1)) = Sp.live (l.take k) ++ if l[k].dead then [] else [l[k]] := by
        unfold Sp.live
        rw [List.take_succ_eq_append_getElem hlt, List.filter_append]
        cases hh : l[k].dead <;> simp [hh]
      have HM := Lib.hid hm
      have HO := Lib.hid hown
      clear hm hown hp hvc hpast hc0
      by_cases hd : l[k].dead = true
      · rw [hd] at c3
        rw [if_pos hd, List.append_nil] at st
        have ST := Lib.hid st
        clear st
        go_wp2_with fail
        go_roundw
        case rel => exact ⟨k + 1, by omega, by go_num, ⟨m, by rw [ST.out]; exact HM.out, HO.out.alloc _, HP.out⟩, hb.trans (Ext.alloc _ _)⟩
        case measure => simp [intOf]; omega
      · have hd' : l[k].dead = false := by simpa using hd
        rw [hd'] at c3
        rw [if_neg hd] at st
        have ST := Lib.hid st
        have HD := Lib.hid hd'
        clear st hd hd'
        go_wp2_with (at_builtin; refine app_new appVer rfl _ _ rfl w.heap.size _ m.length _ rfl (HO.out.alloc (.cells #[.int .i64 l[k].dot.1, .int .i64 l[k].dot.2, .slice A' l[k].past.length c', .bool false, .string (strOf l[k].data)] 71)) #[.int .i64 l[k].dot.1, .int .i64 l[k].dot.2, .slice A' l[k].past.length c', .bool false, .string (strOf l[k].data)] 71 1 (by rw [World.size_alloc]; rfl) rfl (by intro u hu; simp at hu; rcases hu with rfl | rfl | rfl | rfl | rfl <;> rfl) (by decide) (by omega) (by rw [World.size_alloc]; have := hb.size; omega) ?_; intro g6 cap6 w6 hown6 hgr6 hb6 hbg6; have O6 := Lib.hid hown6; have B6 := Lib.hid hb6; clear hown6 hgr6 hb6)
        go_roundw
        case rel =>
          refine ⟨k + 1, by omega, by go_num, ⟨m ++ [(A', c', l[k])], ?_, ?_, ?_⟩, B6.out.from (hb.trans (Ext.alloc _ _))⟩
          · rw [List.map_append, HM.out, ST.out]; rfl
          · rw [versC_append, List.length_append]
            have := O6.out
            simpa [versC, HD.out] using this
          · intro x hx
            rcases List.mem_append.1 hx with h1 | h1
            · exact HP.out x h1
            · obtain rfl := List.mem_singleton.1 h1
              exact HC.out
        case measure => simp [intOf]; omega
    · obtain rfl : k = l.length := by omega
      rw [List.take_length] at hm
      have HM := Lib.hid hm
      clear hm
      go_wp2
      go_ret
      refine ⟨_, rfl, ⟨m, HM.out, ?_, fun x hx => (hp x hx).ext hb⟩, hb⟩
      rw [← HM.out, List.length_map]
      exact hown
set_option maxRecDepth 100000 in
set_option maxHeartbeats 4000000 in
theorem rlive_calls (l : List Sp.Ver) (A : Option Addr) (cap : Nat) (w : World) (h : Vers w A l) (hl : l.length ≤ 1000000) : Calls Tryz.prog 114 #[.slice A l.length cap] w (ToldVers w (Sp.live l)) := by
  go_enter Tryz.func114, Tryz.ntmps114
  go_wp2
  go_loopw [3, 4] (fun v3 v8 wr => ∃ k : Nat, k ≤ l.length ∧ v8 = .int .i64 k ∧ (∃ m : List (Option Addr × Nat × Sp.Ver), m.map (·.2.2) = Sp.live (l.take k) ∧ wr.ownsRow w.heap.size 71 5 v3 m.length (versC m) ∧ ∀ x ∈ m, Past w x.1 x.2.2) ∧ Ext w wr) (fun _ v8 _ => l.length - (intOf v8).toNat)
  case atStart => exact ⟨0, Nat.zero_le _, rfl, ⟨[], rfl, ⟨rfl, .inl ⟨rfl, rfl⟩⟩, fun _ h => by cases h⟩, Ext.refl _⟩
  case round =>
    obtain ⟨k, hk, rfl, ⟨m, hm, hown, hp⟩, hb⟩ := hrel
    by_cases hlt : k < l.length
    · obtain ⟨g, o, rfl, hc0⟩ := h.at (by omega)
      obtain ⟨A', c', hvc, hpast⟩ := hc0 k hlt
      obtain ⟨c0, c1, c2, c3, c4⟩ := hvc.ext hb
      have HC := Lib.hid hpast
      have HP := Lib.hid hp
      have ml : m.length ≤ k := by
        have := congrArg List.length hm
        rw [List.length_map] at this
        rw [this]
        unfold Sp.live
        exact Nat.le_trans (List.length_filter_le _ _) (List.length_take_le _ _)
      have st : Sp.live (l.take (k + 1)) = Sp.live (l.take k) ++ if l[k].dead then [] else [l[k]] := by
        unfold Sp.live
        rw [List.take_succ_eq_append_getElem hlt, List.filter_append]
        cases hh : l[k].dead <;> simp [hh]
      have HM := Lib.hid hm
      have HO := Lib.hid hown
      clear hm hown hp hvc hpast hc0
      by_cases hd : l[k].dead = true
      · rw [hd] at c3
        rw [if_pos hd, List.append_nil] at st
        have ST := Lib.hid st
        clear st
        go_wp2_with fail
        go_roundw
        case rel => exact ⟨k + 1, by omega, by go_num, ⟨m, by rw [ST.out]; exact HM.out, HO.out, HP.out⟩, hb⟩
        case measure => simp [intOf]; omega
      · have hd' : l[k].dead = false := by simpa using hd
        rw [hd'] at c3
        rw [if_neg hd] at st
        have ST := Lib.hid st
        have HD := Lib.hid hd'
        clear st hd hd'
        go_wp2_with (at_builtin; refine app_new appVer rfl _ _ rfl w.heap.size _ m.length _ rfl (HO.out) #[.int .i64 l[k].dot.1, .int .i64 l[k].dot.2, .slice A' l[k].past.length c', .bool false, .string (strOf l[k].data)] 71 1 rfl rfl (by intro u hu; simp at hu; rcases hu with rfl | rfl | rfl | rfl | rfl <;> rfl) (by decide) (by omega) (hb.size) ?_; intro g6 cap6 w6 hown6 hgr6 hb6 hbg6; have O6 := Lib.hid hown6; have B6 := Lib.hid hb6; clear hown6 hgr6 hb6)
        go_roundw
        case rel =>
          refine ⟨k + 1, by omega, by go_num, ⟨m ++ [(A', c', l[k])], ?_, ?_, ?_⟩, B6.out.from hb⟩
          · rw [List.map_append, HM.out, ST.out]; rfl
          · rw [versC_append, List.length_append]
            have := O6.out
            simpa [versC, HD.out] using this
          · intro x hx
            rcases List.mem_append.1 hx with h1 | h1
            · exact HP.out x h1
            · obtain rfl := List.mem_singleton.1 h1
              exact HC.out
        case measure => simp [intOf]; omega
    · obtain rfl : k = l.length := by omega
      rw [List.take_length] at hm
      have HM := Lib.hid hm
      clear hm
      go_wp2
      go_ret
      refine ⟨_, rfl, ⟨m, HM.out, ?_, fun x hx => (hp x hx).ext hb⟩, hb⟩
      rw [← HM.out, List.length_map]
      exact hown
end Go.Proofs.YtmlfnidckfeebaaGreatDoor
namespace Go.Proofs.YtmlfnidckfeebaaGreatDoor
namespace Sp
def cput (n : Nat) : List UInt8 := if n < 128 then [UInt8.ofNat n] else UInt8.ofNat (n % 128 + 128) :: cput (n / 128)
termination_by n
decreasing_by omega
def put (n : Int) : List UInt8 := if 0 ≤ n ∧ n ≤ 1073741824 then cput n.toNat else []
def num : List UInt8 → Nat
  | [] => 0
  | b :: l => b.toNat % 128 + 128 * num l
def cend (l : List UInt8) : Nat → Nat → Option Nat
  | 0, _ => none
  | f + 1, i => match l[i]? with
    | none => none
    | some b => if b.toNat < 128 then some i else cend l f (i + 1)
def take (l : List UInt8) : Nat × Nat × Int := match cend l 5 0 with
  | none => if l.length < 5 then (0, 0, 5) else (0, 0, 2)
  | some i => if l[i]? = some 0 ∧ 0 < i then (0, 0, 7) else if 1073741824 < num (l.take (i + 1)) then (0, 0, 2) else (num (l.take (i + 1)), i + 1, 0)
theorem cput_len (n : Nat) (h : n ≤ 1073741824) : (cput n).length ≤ 5 := by
  rw [cput]; split
  · simp
  · rw [cput]; split
    · simp
    · rw [cput]; split
      · simp
      · rw [cput]; split
        · simp
        · rw [cput]; split
          · simp
          · exfalso; omega
theorem cput_ne (n : Nat) : cput n ≠ [] := by rw [cput]; split <;> simp
theorem put_ne {n : Int} : put n ≠ [] ↔ 0 ≤ n ∧ n ≤ 1073741824 := by
  unfold put; split
  · simp [cput_ne, *]
  · simp [*]
theorem put_len (n : Int) : (put n).length ≤ 5 := by
  unfold put; split
  · exact cput_len _ (by omega)
  · simp
end Sp
end Go.Proofs.YtmlfnidckfeebaaGreatDoor
