/- Walks: versions that nobody else has. Walks: searching a row of texts. -/
import Derived.Test.YtmlkachfahabnaaGreatDoorTA23
namespace Go.Proofs.YtmlkachfahabnaaGreatDoor
open Go.RowKit Go.Shelf
attribute [local go_sem] yUpon
theorem own_set {w : World} {B g n cap : Nat} {e : TypeId} {size : Nat} {xs : List Value} (h : w.ownsRow B e size (.slice (some ⟨g, 0, none⟩) n cap) n xs) (j : Nat) (hj : j < xs.length) (u : Value) :
    (w.setCell ⟨g, j, none⟩ u).ownsRow B e size (.slice (some ⟨g, 0, none⟩) n cap) n (xs.set j u) := by
  obtain ⟨hl, h⟩ := h
  refine ⟨by rw [List.length_set, hl], ?_⟩
  rcases h with ⟨h, _⟩ | ⟨g', cap', cur, hv, hb, hh, hn, hc, hs, ht⟩
  · cases h
  · cases hv
    refine .inr ⟨g, cap, cur.setIfInBounds j u, rfl, hb, isBlk.put hh j u rfl, hn, hc, by simpa using hs, ?_⟩
    rw [Array.toList_setIfInBounds, List.take_set, ht]
theorem own_isBlk {w : World} {B g n cap : Nat} {e : TypeId} {size : Nat} {xs : List Value} (h : w.ownsRow B e size (.slice (some ⟨g, 0, none⟩) n cap) n xs) (j : Nat) (u : Value) (hu : xs[j]? = some u) : w.cell? ⟨g, j, none⟩ = some u ∧ w.frozen? ⟨g, j, none⟩ = false ∧ B ≤ g ∧ g < w.heap.size := by
  rcases h.2 with ⟨h, _⟩ | ⟨g', cap', cur, hv, hb, hh, hn, hc, hs, ht⟩
  · cases h
  · cases hv
    refine ⟨?_, isBlk.frozen hh j, hb, isBlk.lt hh⟩
    rw [isBlk.cell hh j]
    rw [← ht, List.getElem?_take] at hu
    split at hu
    · simpa using hu
    · cases hu
theorem versC_set : ∀ (m : List (Option Addr × Nat × Sp.Ver)) (k : Nat) (A : Option Addr) (c : Nat) (h : k < m.length), (versC m).set (k * 5 + 2) (.slice A m[k].2.2.past.length c) = versC (m.set k (A, c, m[k].2.2))
  | x :: r, 0, A, c, _ => by
    simp only [versC, List.getElem_cons_zero, List.set_cons_zero]
    rfl
  | x :: r, k + 1, A, c, h => by
    have ih := versC_set r k A c (by simpa using h)
    simp only [List.getElem_cons_succ, List.set_cons_succ, versC]
    have h5 : (verC x.1 x.2.1 x.2.2).toList.length = 5 := rfl
    rw [← ih, List.set_append_right _ _ (by rw [h5]; omega), h5, show (k + 1) * 5 + 2 - 5 = k * 5 + 2 by omega]
theorem dotsC_one : ∀ (l : List Sp.Dot), ∀ u ∈ dotsC l, u.oneCell' = true
  | [], u, h => by cases h
  | d :: r, u, h => by
    rw [show dotsC (d :: r) = .int .i64 d.1 :: .int .i64 d.2 :: dotsC r from rfl] at h
    rcases List.mem_cons.1 h with rfl | h
    · rfl
    · rcases List.mem_cons.1 h with rfl | h
      · rfl
      · exact dotsC_one r u h
theorem Cells.off {w w' : World} {B g : Nat} {A : Option Addr} {cs : List Value} (h : Cells w A cs) (ha : ∀ a, A = some a → B ≤ a.block) (hg : g < B) (e : Only g w w') : Cells w' A cs := h.only (fun a h1 h2 => by have := ha a h1; omega) e
set_option maxRecDepth 100000 in
set_option maxHeartbeats 4000000 in
theorem copied_calls (l : List Sp.Ver) (A : Option Addr) (cap : Nat) (w : World) (hV : Vers w A l) (hl : l.length ≤ 1000000) (hp : ∀ v ∈ l, v.past.length ≤ 1000000) :
    Calls Tryz.prog 22 #[.slice A l.length cap] w (ToldVers w l) := by
  obtain ⟨m, hm, hc, hps⟩ := hV
  have hml : m.length = l.length := by rw [← hm]; simp
  have CV := Lib.hid (cloneVer (versC m) l.length cap A w hc (by rw [versC_len, hml]) (versC_one m) (by omega))
  go_enter Tryz.func22, Tryz.ntmps22
  go_wp2_with fail
  refine CV.out.mono ?_
  rintro e w1 ⟨v1, rfl, hO, hb1⟩
  rcases own_form hO with ⟨rfl, hl0, _⟩ | ⟨gv, cv, rfl, hgv, hgl⟩
  · have hl0' : l = [] := List.eq_nil_of_length_eq_zero hl0
    subst hl0'
    go_wp2
    go_loopw [9] (fun v9 wr => v9 = .int .i64 0 ∧ wr = w1) (fun _ _ => 0)
    case atStart => exact ⟨rfl, rfl⟩
    case round =>
      obtain ⟨rfl, rfl⟩ := hrel
      go_wp2
      go_ret
      exact ⟨_, rfl, ⟨[], rfl, World.ownsRow_nil _ _ _ _, fun _ h => by cases h⟩, hb1⟩
  · have HM := Lib.hid hm
    have HPS := Lib.hid hps
    have HO := Lib.hid hO
    have HB1 := Lib.hid hb1
    clear hO hb1 hc hm hps
    go_wp2
    go_loopw [9] (fun v9 wr => ∃ (k : Nat) (m' : List (Option Addr × Nat × Sp.Ver)), k ≤ l.length ∧ v9 = .int .i64 k ∧ m'.map (·.2.2) = l ∧ wr.ownsRow w.heap.size 48 5 (.slice (some ⟨gv, 0, none⟩) l.length cv) l.length (versC m') ∧
      (∀ i (h : i < m'.length), (i < k → (∀ a, m'[i].1 = some a → gv < a.block) ∧ Past wr m'[i].1 m'[i].2.2) ∧ (k ≤ i → Past w m'[i].1 m'[i].2.2)) ∧ Ext w wr ∧ gv < wr.heap.size) (fun v9 _ => l.length - (intOf v9).toNat)
    case atStart => exact ⟨0, m, Nat.zero_le _, rfl, HM.out, HO.out, fun i h => ⟨fun h0 => by omega, fun _ => HPS.out _ (List.getElem_mem h)⟩, HB1.out, hgl⟩
    case round =>
      obtain ⟨k, m', hk, rfl, hmm, hO, hP, hb, hgw⟩ := hrel
      have hml' : m'.length = l.length := by rw [← hmm]; simp
      by_cases hlt : k < l.length
      · have hkm : k < m'.length := by omega
        obtain ⟨c2, f2, hBg, _⟩ := own_isBlk hO (k * 5 + 2) _ ((versC_get m' k 2 hkm (by decide)).trans rfl)
        have pk := (hP k hkm).2 (Nat.le_refl _)
        have hpl : m'[k].2.2.past.length ≤ 1000000 := hp _ (by rw [← hmm]; exact List.mem_map.2 ⟨m'[k], List.getElem_mem hkm, rfl⟩)
        have CD := Lib.hid (cloneDot (dotsC m'[k].2.2.past) m'[k].2.2.past.length m'[k].2.1 m'[k].1 wr (pk.ext hb).1 (dotsC_len _) (dotsC_one _) (by omega))
        have EP := Lib.hid fun (W : World) (x : Option Addr × Nat × Sp.Ver) (hx : x ∈ m') => hx
        have O0 := Lib.hid hO
        have P0 := Lib.hid hP
        have HB := Lib.hid hb
        have HMM := Lib.hid hmm
        have HGW := Lib.hid hgw
        have PL := Lib.hid pk.2
        have B1 : (k : Int) < (l.length : Int) := by omega
        obtain ⟨x, hx⟩ : ∃ x, x = m'[k] := ⟨_, rfl⟩
        rw [← hx] at c2 CD PL hpl
        have HX := Lib.hid hx
        clear hO hP hb hmm hgw pk EP hx
        go_wp2_with fail
        refine CD.out.mono ?_
        rintro e w2 ⟨v2, rfl, hO2, hb2⟩
        obtain ⟨A2, cp2, rfl, hC2⟩ := own_read hO2
        have off := own_off hO2
        have c2' := hb2.cell c2
        have f2' : w2.frozen? ⟨gv, k * 5 + 2, none⟩ = false := by
          have := hb2.block gv HGW.out
          rw [World.frozen?_of_block (a := ⟨gv, k * 5 + 2, none⟩) this]; exact f2
        have O2 := Lib.hid hO2
        have C2 := Lib.hid hC2
        have OFF := Lib.hid off
        have HB2 := Lib.hid hb2
        clear hO2 hC2 off hb2 c2 f2
        go_wp2_with fail
        have hj : k * 5 + 2 < (versC m').length := by rw [versC_len]; omega
        have O3 := own_set (owned_below O0.out HB2.out) (k * 5 + 2) hj (.slice A2 x.2.2.past.length cp2)
        have VS := versC_set m' k A2 cp2 hkm
        rw [← HX.out] at VS
        rw [VS] at O3
        have hlk : x.2.2 = l[k] := by
          have : l[k]? = some x.2.2 := by rw [← HMM.out, List.getElem?_map, List.getElem?_eq_getElem hkm, ← HX.out]; rfl
          rw [List.getElem?_eq_getElem hlt] at this
          exact (Option.some.inj this).symm
        have hmap : (m'.set k (A2, cp2, x.2.2)).map (·.2.2) = l := by
          rw [List.map_set, HMM.out]
          show l.set k x.2.2 = l
          rw [hlk, List.set_getElem_self]
        have on : Only gv w2 (w2.setCell ⟨gv, k * 5 + 2, none⟩ (.slice A2 x.2.2.past.length cp2)) := Only.set _ _ _ _
        refine ⟨⟨k + 1, m'.set k (A2, cp2, x.2.2), by omega, by go_num, hmap, O3, fun i hi => ?_, (HB.out.trans HB2.out).setCell hBg _, by have := HB2.out.size; have := HGW.out; simp; omega⟩, by simp [intOf]; omega⟩
        have hi' : i < m'.length := by simpa using hi
        rw [List.getElem_set]
        by_cases hik : k = i
        · rw [if_pos hik]
          refine ⟨fun _ => ⟨fun a ha => by have := OFF.out a ha; have := HGW.out; omega, ?_, PL.out⟩, fun h => by omega⟩
          exact C2.out.off OFF.out HGW.out on
        · rw [if_neg hik]
          obtain ⟨p1, p2⟩ := P0.out i hi'
          refine ⟨fun h => ?_, fun h => p2 (by omega)⟩
          obtain ⟨q1, q2⟩ := p1 (by omega)
          exact ⟨q1, Cells.off (B := gv + 1) (q2.ext HB2.out).1 (fun a ha => q1 a ha) (Nat.lt_succ_self _) on, q2.2⟩
      · obtain rfl : k = l.length := by omega
        go_wp2
        go_ret
        exact ⟨_, rfl, ⟨m', hmm, hO, fun x hx => by
          obtain ⟨i, hi, rfl⟩ := List.getElem_of_mem hx
          exact ((hP i hi).1 (by omega)).2⟩, hb⟩
end Go.Proofs.YtmlkachfahabnaaGreatDoor
namespace Go.Proofs.YtmlkachfahabnaaGreatDoor
open Go.RowKit Go.Shelf
attribute [local go_sem] yUpon strOf_toList
def strsC (l : List Sp.Bs) : List Value := l.map fun s => .string (strOf s)
def Nams (w : World) (A : Option Addr) (l : List Sp.Bs) : Prop := Cells w A (strsC l)
theorem Nams.ext {w w' : World} {A : Option Addr} {l : List Sp.Bs} (h : Nams w A l) (e : Ext w w') : Nams w' A l := Cells.ext h e
theorem Nams.at {w : World} {A : Option Addr} {l : List Sp.Bs} (h : Nams w A l) (hn : 0 < l.length) : ∃ g o, A = some ⟨g, o, none⟩ ∧ ∀ k (h : k < l.length), w.cell? ⟨g, o + k, none⟩ = some (.string (strOf l[k])) := by
  obtain ⟨g, o, hA, hc⟩ := h (by intro e; rw [strsC, List.map_eq_nil_iff] at e; rw [e] at hn; simp at hn)
  exact ⟨g, o, hA, fun k hk => hc k _ (by simp [strsC, hk])⟩
set_option maxRecDepth 100000 in
set_option maxHeartbeats 2000000 in
theorem cnan_calls (a : Sp.Bs) (w : World) : Calls Tryz.prog 118 #[.string (strOf a)] w fun e w' => e = .returned (.bool false) ∧ w = w' := by
  go_enter Tryz.func118, Tryz.ntmps118
  go_wp2
  go_ret
  exact ⟨ret_bool (by simp), rfl⟩
set_option maxRecDepth 100000 in
set_option maxHeartbeats 2000000 in
theorem snan_calls (a : Sp.Bs) (w : World) : Calls Tryz.prog 97 #[.string (strOf a)] w fun e w' => e = .returned (.bool false) ∧ w = w' := by
  go_enter Tryz.func97, Tryz.ntmps97
  go_wp2
  go_ret
  exact ⟨ret_bool (by simp), rfl⟩
set_option maxRecDepth 100000 in
set_option maxHeartbeats 2000000 in
theorem sless_calls (a b : Sp.Bs) (w : World) : Calls Tryz.prog 96 #[.string (strOf a), .string (strOf b)] w fun e w' => e = .returned (.bool (Op.bytesLess a b)) ∧ w = w' := by
  go_enter Tryz.func96, Tryz.ntmps96
  go_wp2_with (go_at_call 118; refine (cnan_calls _ _).mono ?_; rintro e w1 ⟨rfl, rfl⟩)
  go_ret
  exact ⟨ret_bool (by simp), rfl⟩
set_option maxRecDepth 100000 in
set_option maxHeartbeats 2000000 in
theorem bin_calls (l : List Sp.Bs) (t : Sp.Bs) (p : Nat) (A : Option Addr) (cap : Nat) (w : World) (h : Nams w A l) (hl : l.length ≤ 140737488351232) (hp : p ≤ l.length) (hm : ∀ k (h : k < l.length), Op.bytesLess l[k] t = decide (k < p)) :
    Calls Tryz.prog 66 #[.slice A l.length cap, .string (strOf t)] w fun e w' => e = .returned (.tuple #[.int .i64 p, .bool (decide (l[p]? = some t))]) ∧ Ext w w' := by
  go_enter Tryz.func66, Tryz.ntmps66
  go_wp2
  go_loopw [7, 8] (fun v7 v8 wr => ∃ (i j : Nat), i ≤ p ∧ p ≤ j ∧ j ≤ l.length ∧ v7 = .int .i64 i ∧ v8 = .int .i64 j ∧ Ext w wr) (fun v7 v8 _ => (intOf v8).toNat - (intOf v7).toNat)
  case atStart => exact ⟨0, l.length, Nat.zero_le _, hp, Nat.le_refl _, rfl, rfl, Ext.refl _⟩
  case round =>
    obtain ⟨i, j, hi, hpj, hj, rfl, rfl, hb⟩ := hrel
    by_cases hlt : i < j
    · obtain ⟨m, hmm⟩ : ∃ m, m = (i + j) / 2 := ⟨_, rfl⟩
      have hml : m < l.length := by omega
      obtain ⟨g, o, rfl, hc⟩ := (h.ext hb).at (by omega)
      have c1 := hc m hml
      have e1 : ((i : Int) + (j : Int)) / 2 = (m : Int) := by omega
      have hd := hm m hml
      have MM := Lib.hid hmm
      obtain ⟨x, hx⟩ : ∃ x, x = l[m] := ⟨_, rfl⟩
      rw [← hx] at c1 hd
      clear hc hmm hx
      go_wp2_with (go_at_call 96; refine (sless_calls x t _).mono ?_; rintro e w1 ⟨rfl, rfl⟩; rw [hd])
      · go_roundw
        case rel => exact ⟨m + 1, j, by simp_all; omega, hpj, hj, by go_num, rfl, hb⟩
        case measure => simp [intOf]; have := MM.out; omega
      · go_roundw
        case rel => exact ⟨i, m, hi, by simp_all, by omega, rfl, rfl, hb⟩
        case measure => simp [intOf]; have := MM.out; omega
    · obtain rfl : i = p := by omega
      obtain rfl : j = i := by omega
      by_cases hpl : j < l.length
      · obtain ⟨g, o, rfl, hc⟩ := (h.ext hb).at (by omega)
        have c1 := hc j hpl
        have hg : l[j]? = some l[j] := List.getElem?_eq_getElem hpl
        obtain ⟨x, hx⟩ : ∃ x, x = l[j] := ⟨_, rfl⟩
        rw [← hx] at c1 hg
        have HG := Lib.hid hg
        clear hc hx hg
        go_wp2_with (go_at_call 97; refine (snan_calls _ _).mono ?_; rintro e w1 ⟨rfl, rfl⟩)
        all_goals go_ret2
        all_goals rename_i hxt
        · refine ⟨?_, hb⟩
          rw [HG.out, hxt, decide_eq_true (rfl : some t = some t)]
          rfl
        · refine ⟨?_, hb⟩
          rw [HG.out, decide_eq_false (fun h => hxt (Option.some.inj h))]
          show Ending.returned (.tuple #[.int .i64 (j : Nat), .bool (x == t)]) = _
          rw [show (x == t) = false by simpa using hxt]
      · have hg : l[j]? = none := List.getElem?_eq_none (by omega)
        have HG := Lib.hid hg
        clear hg
        go_wp2_with fail
        go_ret2
        exact ⟨by rw [HG.out]; simp, hb⟩
end Go.Proofs.YtmlkachfahabnaaGreatDoor
