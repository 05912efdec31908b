/- Walks: versions that nobody else has. Walks: searching a row of texts. Walks: slices.Delete of one. Copies onto a slice of the call's own; the append of a make onto one. -/
import Derived.Laws.CopyRow
import Derived.Lib.Overlaps
import Derived.Test.YtmlfnidckfeebaaGreatDoorQQ009
namespace Go.Proofs.YtmlfnidckfeebaaGreatDoor
open Go.RowKit Go.Shelf
attribute [local go_sem] yUpon
theorem own_set {w : World} {B g n cap : Nat} {e : TypeId} {size : Nat} {xs : List Value} (h : w.ownsRow B e size (.slice (some ⟨g, 0, none⟩) n cap) n xs) (j : Nat) (_hj : j < xs.length) (u : Value) :
    (w.setCell ⟨g, j, none⟩ u).ownsRow B e size (.slice (some ⟨g, 0, none⟩) n cap) n (xs.set j u) := by
  obtain ⟨hl, h⟩ := h
  refine ⟨by rw [List.length_set, hl], ?_⟩
  rcases h with ⟨h, _⟩ | ⟨g', cap', cur, hv, hb, hh, hn, hc, hs, ht⟩
  · cases h
  · cases hv
    refine .inr ⟨g, cap, cur.setIfInBounds j u, rfl, hb, isBlk.put hh j u rfl, hn, hc, by simpa using hs, ?_⟩
    rw [Array.toList_setIfInBounds, List.take_set, ht]
theorem own_isBlk {w : World} {B g n cap : Nat} {e : TypeId} {size : Nat} {xs : List Value} (h : w.ownsRow B e size (.slice (some ⟨g, 0, none⟩) n cap) n xs) (j : Nat) (u : Value) (hu : xs[j]? = some u) : w.cell? ⟨g, j, none⟩ = some u ∧ w.frozen? ⟨g, j, none⟩ = false ∧ B ≤ g ∧ g < w.heap.size := by
  rcases h.2 with ⟨h, _⟩ | ⟨g', cap', cur, hv, hb, hh, hn, hc, hs, ht⟩
  · cases h
  · cases hv
    refine ⟨?_, isBlk.frozen hh j, hb, isBlk.lt hh⟩
    rw [isBlk.cell hh j]
    rw [← ht, List.getElem?_take] at hu
    split at hu
    · simpa using hu
    · cases hu
theorem versC_set : ∀ (m : List (Option Addr × Nat × Sp.Ver)) (k : Nat) (A : Option Addr) (c : Nat) (h : k < m.length), (versC m).set (k * 5 + 2) (.slice A m[k].2.2.past.length c) = versC (m.set k (A, c, m[k].2.2))
  | x :: r, 0, A, c, _ => by
    simp only [versC, List.getElem_cons_zero, List.set_cons_zero]
    rfl
  | x :: r, k + 1, A, c, h => by
    have ih := versC_set r k A c (by simpa using h)
    simp only [List.getElem_cons_succ, List.set_cons_succ, versC]
    have h5 : (verC x.1 x.2.1 x.2.2).toList.length = 5 := rfl
    rw [← ih, List.set_append_right _ _ (by rw [h5]; omega), h5, show (k + 1) * 5 + 2 - 5 = k * 5 + 2 by omega]
theorem dotsC_one : ∀ (l : List Sp.Dot), ∀ u ∈ dotsC l, u.oneCell' = true
  | [], u, h => by cases h
  | d :: r, u, h => by
    rw [show dotsC (d :: r) = .int .i64 d.1 :: .int .i64 d.2 :: dotsC r from rfl] at h
    rcases List.mem_cons.1 h with rfl | h
    · rfl
    · rcases List.mem_cons.1 h with rfl | h
      · rfl
      · exact dotsC_one r u h
theorem Cells.off {w w' : World} {B g : Nat} {A : Option Addr} {cs : List Value} (h : Cells w A cs) (ha : ∀ a, A = some a → B ≤ a.block) (hg : g < B) (e : Only g w w') : Cells w' A cs := h.only (fun a h1 h2 => by have := ha a h1; omega) e
set_option maxRecDepth 100000 in
set_option maxHeartbeats 4000000 in
theorem copied_calls (l : List Sp.Ver) (A : Option Addr) (cap : Nat) (w : World) (hV : Vers w A l) (hl : l.length ≤ 1000000) (hp : ∀ v ∈ l, v.past.length ≤ 1000000) :
    Calls Tryz.prog 84 #[.slice A l.length cap] w (ToldVers w l) := by
  obtain ⟨m, hm, hc, hps⟩ := hV
  have hml : m.length = l.length := by rw [← hm]; simp
  have CV := Lib.hid (cloneVer (versC m) l.length cap A w hc (by rw [versC_len, hml]) (versC_one m) (by omega))
  go_enter Tryz.func84, Tryz.ntmps84
  go_wp2_with fail
  refine CV.out.mono ?_
  rintro e w1 ⟨v1, rfl, hO, hb1⟩
  rcases own_form hO with ⟨rfl, hl0, _⟩ | ⟨gv, cv, rfl, hgv, hgl⟩
  · have hl0' : l = [] := List.eq_nil_of_length_eq_zero hl0
    subst hl0'
    go_wp2
    go_loopw [9] (fun v9 wr => v9 = .int .i64 0 ∧ wr = w1) (fun _ _ => 0)
    case atStart => exact ⟨rfl, rfl⟩
    case round =>
      obtain ⟨rfl, rfl⟩ := hrel
      go_wp2
      go_ret
      exact ⟨_, rfl, ⟨[], rfl, World.ownsRow_nil _ _ _ _, fun _ h => by cases h⟩, hb1⟩
  · have HM := Lib.hid hm
    have HPS := Lib.hid hps
    have HO := Lib.hid hO
    have HB1 := Lib.hid hb1
    clear hO hb1 hc hm hps
    go_wp2
    go_loopw [9] (fun v9 wr => ∃ (k : Nat) (m' : List (Option Addr × Nat × Sp.Ver)), k ≤ l.length ∧ v9 = .int .i64 k ∧ m'.map (·.2.2) = l ∧ wr.ownsRow w.heap.size 71 5 (.slice (some ⟨gv, 0, none⟩) l.length cv) l.length (versC m') ∧
      (∀ i (h : i < m'.length), (i < k → (∀ a, m'[i].1 = some a → gv < a.block) ∧ Past wr m'[i].1 m'[i].2.2) ∧ (k ≤ i → Past w m'[i].1 m'[i].2.2)) ∧ Ext w wr ∧ gv < wr.heap.size) (fun v9 _ => l.length - (intOf v9).toNat)
    case atStart => exact ⟨0, m, Nat.zero_le _, rfl, HM.out, HO.out, fun i h => ⟨fun h0 => by omega, fun _ => HPS.out _ (List.getElem_mem h)⟩, HB1.out, hgl⟩
    case round =>
      obtain ⟨k, m', hk, rfl, hmm, hO, hP, hb, hgw⟩ := hrel
      have hml' : m'.length = l.length := by rw [← hmm]; simp
      by_cases hlt : k < l.length
      · have hkm : k < m'.length := by omega
        obtain ⟨c2, f2, hBg, _⟩ := own_isBlk hO (k * 5 + 2) _ ((versC_get m' k 2 hkm (by decide)).trans rfl)
        have pk := (hP k hkm).2 (Nat.le_refl _)
        have hpl : m'[k].2.2.past.length ≤ 1000000 := hp _ (by rw [← hmm]; exact List.mem_map.2 ⟨m'[k], List.getElem_mem hkm, rfl⟩)
        have CD := Lib.hid (cloneDot (dotsC m'[k].2.2.past) m'[k].2.2.past.length m'[k].2.1 m'[k].1 wr (pk.ext hb).1 (dotsC_len _) (dotsC_one _) (by omega))
        have EP := Lib.hid fun (W : World) (x : Option Addr × Nat × Sp.Ver) (hx : x ∈ m') => hx
        have O0 := Lib.hid hO
        have P0 := Lib.hid hP
        have HB := Lib.hid hb
        have HMM := Lib.hid hmm
        have HGW := Lib.hid hgw
        have PL := Lib.hid pk.2
        have B1 : (k : Int) < (l.length : Int) := by omega
        obtain ⟨x, hx⟩ : ∃ x, x = m'[k] := ⟨_, rfl⟩
        rw [← hx] at c2 CD PL hpl
        have HX := Lib.hid hx
        clear hO hP hb hmm hgw pk EP hx
        go_wp2_with fail
        refine CD.out.mono ?_
        rintro e w2 ⟨v2, rfl, hO2, hb2⟩
        obtain ⟨A2, cp2, rfl, hC2⟩ := own_read hO2
        have off := own_off hO2
        have c2' := hb2.cell c2
        have f2' : w2.frozen? ⟨gv, k * 5 + 2, none⟩ = false := by
          have := hb2.block gv HGW.out
          rw [World.frozen?_of_block (a := ⟨gv, k * 5 + 2, none⟩) this]; exact f2
        have O2 := Lib.hid hO2
        have C2 := Lib.hid hC2
        have OFF := Lib.hid off
        have HB2 := Lib.hid hb2
        clear hO2 hC2 off hb2 c2 f2
        go_wp2_with fail
        have hj : k * 5 + 2 < (versC m').length := by rw [versC_len]; omega
        have O3 := own_set (owned_below O0.out HB2.out) (k * 5 + 2) hj (.slice A2 x.2.2.past.length cp2)
        have VS := versC_set m' k A2 cp2 hkm
        rw [← HX.out] at VS
        rw [VS] at O3
        have hlk : x.2.2 = l[k] := by
          have : l[k]? = some x.2.2 := by rw [← HMM.out, List.getElem?_map, List.getElem?_eq_getElem hkm, ← HX.out]; rfl
          rw [List.getElem?_eq_getElem hlt] at this
          exact (Option.some.inj this).symm
        have hmap : (m'.set k (A2, cp2, x.2.2)).map (·.2.2) = l := by
          rw [List.map_set, HMM.out]
          show l.set k x.2.2 = l
          rw [hlk, List.set_getElem_self]
        have on : Only gv w2 (w2.setCell ⟨gv, k * 5 + 2, none⟩ (.slice A2 x.2.2.past.length cp2)) := Only.set _ _ _ _
        refine ⟨⟨k + 1, m'.set k (A2, cp2, x.2.2), by omega, by go_num, hmap, O3, fun i hi => ?_, (HB.out.trans HB2.out).setCell hBg _, by have := HB2.out.size; have := HGW.out; simp; omega⟩, by simp [intOf]; omega⟩
        have hi' : i < m'.length := by simpa using hi
        rw [List.getElem_set]
        by_cases hik : k = i
        · rw [if_pos hik]
          refine ⟨fun _ => ⟨fun a ha => by have := OFF.out a ha; have := HGW.out; omega, ?_, PL.out⟩, fun h => by omega⟩
          exact C2.out.off OFF.out HGW.out on
        · rw [if_neg hik]
          obtain ⟨p1, p2⟩ := P0.out i hi'
          refine ⟨fun h => ?_, fun h => p2 (by omega)⟩
          obtain ⟨q1, q2⟩ := p1 (by omega)
          exact ⟨q1, Cells.off (B := gv + 1) (q2.ext HB2.out).1 (fun a ha => q1 a ha) (Nat.lt_succ_self _) on, q2.2⟩
      · obtain rfl : k = l.length := by omega
        go_wp2
        go_ret
        exact ⟨_, rfl, ⟨m', hmm, hO, fun x hx => by
          obtain ⟨i, hi, rfl⟩ := List.getElem_of_mem hx
          exact ((hP i hi).1 (by omega)).2⟩, hb⟩
end Go.Proofs.YtmlfnidckfeebaaGreatDoor
namespace Go.Proofs.YtmlfnidckfeebaaGreatDoor
open Go.RowKit Go.Shelf
attribute [local go_sem] yUpon strOf_toList
def strsC (l : List Sp.Bs) : List Value := l.map fun s => .string (strOf s)
def Nams (w : World) (A : Option Addr) (l : List Sp.Bs) : Prop := Cells w A (strsC l)
theorem Nams.ext {w w' : World} {A : Option Addr} {l : List Sp.Bs} (h : Nams w A l) (e : Ext w w') : Nams w' A l := Cells.ext h e
theorem Nams.at {w : World} {A : Option Addr} {l : List Sp.Bs} (h : Nams w A l) (hn : 0 < l.length) : ∃ g o, A = some ⟨g, o, none⟩ ∧ ∀ k (h : k < l.length), w.cell? ⟨g, o + k, none⟩ = some (.string (strOf l[k])) := by
  obtain ⟨g, o, hA, hc⟩ := h (by intro e; rw [strsC, List.map_eq_nil_iff] at e; rw [e] at hn; simp at hn)
  exact ⟨g, o, hA, fun k hk => hc k _ (by simp [strsC, hk])⟩
set_option maxRecDepth 100000 in
set_option maxHeartbeats 2000000 in
theorem cnan_calls (a : Sp.Bs) (w : World) : Calls Tryz.prog 270 #[.string (strOf a)] w fun e w' => e = .returned (.bool false) ∧ w = w' := by
  go_enter Tryz.func270, Tryz.ntmps270
  go_wp2
  go_ret
  exact ⟨ret_bool (by simp), rfl⟩
set_option maxRecDepth 100000 in
set_option maxHeartbeats 2000000 in
theorem snan_calls (a : Sp.Bs) (w : World) : Calls Tryz.prog 236 #[.string (strOf a)] w fun e w' => e = .returned (.bool false) ∧ w = w' := by
  go_enter Tryz.func236, Tryz.ntmps236
  go_wp2
  go_ret
  exact ⟨ret_bool (by simp), rfl⟩
set_option maxRecDepth 100000 in
set_option maxHeartbeats 2000000 in
theorem sless_calls (a b : Sp.Bs) (w : World) : Calls Tryz.prog 235 #[.string (strOf a), .string (strOf b)] w fun e w' => e = .returned (.bool (Op.bytesLess a b)) ∧ w = w' := by
  go_enter Tryz.func235, Tryz.ntmps235
  go_wp2_with (go_at_call 270; refine (cnan_calls _ _).mono ?_; rintro e w1 ⟨rfl, rfl⟩)
  go_ret
  exact ⟨ret_bool (by simp), rfl⟩
set_option maxRecDepth 100000 in
set_option maxHeartbeats 2000000 in
theorem bin_calls (l : List Sp.Bs) (t : Sp.Bs) (p : Nat) (A : Option Addr) (cap : Nat) (w : World) (h : Nams w A l) (hl : l.length ≤ 140737488351232) (hp : p ≤ l.length) (hm : ∀ k (h : k < l.length), Op.bytesLess l[k] t = decide (k < p)) :
    Calls Tryz.prog 172 #[.slice A l.length cap, .string (strOf t)] w fun e w' => e = .returned (.tuple #[.int .i64 p, .bool (decide (l[p]? = some t))]) ∧ Ext w w' := by
  go_enter Tryz.func172, Tryz.ntmps172
  go_wp2
  go_loopw [7, 8] (fun v7 v8 wr => ∃ (i j : Nat), i ≤ p ∧ p ≤ j ∧ j ≤ l.length ∧ v7 = .int .i64 i ∧ v8 = .int .i64 j ∧ Ext w wr) (fun v7 v8 _ => (intOf v8).toNat - (intOf v7).toNat)
  case atStart => exact ⟨0, l.length, Nat.zero_le _, hp, Nat.le_refl _, rfl, rfl, Ext.refl _⟩
  case round =>
    obtain ⟨i, j, hi, hpj, hj, rfl, rfl, hb⟩ := hrel
    by_cases hlt : i < j
    · obtain ⟨m, hmm⟩ : ∃ m, m = (i + j) / 2 := ⟨_, rfl⟩
      have hml : m < l.length := by omega
      obtain ⟨g, o, rfl, hc⟩ := (h.ext hb).at (by omega)
      have c1 := hc m hml
      have e1 : ((i : Int) + (j : Int)) / 2 = (m : Int) := by omega
      have hd := hm m hml
      have MM := Lib.hid hmm
      obtain ⟨x, hx⟩ : ∃ x, x = l[m] := ⟨_, rfl⟩
      rw [← hx] at c1 hd
      clear hc hmm hx
      go_wp2_with (go_at_call 235; refine (sless_calls x t _).mono ?_; rintro e w1 ⟨rfl, rfl⟩; rw [hd])
      · go_roundw
        case rel => exact ⟨m + 1, j, by simp_all; omega, hpj, hj, by go_num, rfl, hb⟩
        case measure => simp [intOf]; have := MM.out; omega
      · go_roundw
        case rel => exact ⟨i, m, hi, by simp_all, by omega, rfl, rfl, hb⟩
        case measure => simp [intOf]; have := MM.out; omega
    · obtain rfl : i = p := by omega
      obtain rfl : j = i := by omega
      by_cases hpl : j < l.length
      · obtain ⟨g, o, rfl, hc⟩ := (h.ext hb).at (by omega)
        have c1 := hc j hpl
        have hg : l[j]? = some l[j] := List.getElem?_eq_getElem hpl
        obtain ⟨x, hx⟩ : ∃ x, x = l[j] := ⟨_, rfl⟩
        rw [← hx] at c1 hg
        have HG := Lib.hid hg
        clear hc hx hg
        go_wp2_with (go_at_call 236; refine (snan_calls _ _).mono ?_; rintro e w1 ⟨rfl, rfl⟩)
        all_goals go_ret2
        all_goals rename_i hxt
        · refine ⟨?_, hb⟩
          rw [HG.out, hxt, decide_eq_true (rfl : some t = some t)]
          rfl
        · refine ⟨?_, hb⟩
          rw [HG.out, decide_eq_false (fun h => hxt (Option.some.inj h))]
          show Ending.returned (.tuple #[.int .i64 (j : Nat), .bool (x == t)]) = _
          rw [show (x == t) = false by simpa using hxt]
      · have hg : l[j]? = none := List.getElem?_eq_none (by omega)
        have HG := Lib.hid hg
        clear hg
        go_wp2_with fail
        go_ret2
        exact ⟨by rw [HG.out]; simp, hb⟩
end Go.Proofs.YtmlfnidckfeebaaGreatDoor
namespace Go.Proofs.YtmlfnidckfeebaaGreatDoor
open Go.RowKit Go.Shelf
attribute [local go_sem] yUpon strOf_toList
theorem clear_run {P : Program} (w : World) {ops : Array Oper} {rest : List Oper} {o : Oper} {a : Act} {Q : Exit → Act → World → Prop} (hgd : o.guard = none) (x : Operand) (t : TypeId)
    (ho : o.op = .call { callee := .builtin .clear, args := #[x], argTypes := #[t] }) (vx : Value) (hx : a.eval x = vx)
    (v' : Value) (w' : World) (hr : (Builtin.clear_ #[t] o.type #[vx]).run P w = .ok v' w') (h : wpList P ops Q rest (a.put o.dst v') w') : wpList P ops Q (o :: rest) a w := by
  refine wpList_plain hgd fun K hK => ?_
  unfold Oper.wp execOp
  simp only [ho, resolve, invoke, builtin, Sem.run_bind, Sem.run_pure, Result.andThen_ok, List.map_toArray, List.map_cons, List.map_nil, hx, hr]
  exact hK _ _ h
theorem putsA_size : ∀ (vs : List Value) (o : Nat) (cs : Array Value), (putsA cs o vs).size = cs.size
  | [], _, _ => rfl
  | v :: r, o, cs => by rw [putsA, putsA_size r, Array.size_setIfInBounds]
theorem putsA_get : ∀ (vs : List Value) (o : Nat) (cs : Array Value) (m : Nat), o + vs.length ≤ cs.size → (putsA cs o vs)[m]? = if o ≤ m ∧ m < o + vs.length then vs[m - o]? else cs[m]?
  | [], o, cs, m, _ => by rw [if_neg (by rw [List.length_nil]; omega)]; rfl
  | v :: r, o, cs, m, h => by
    rw [putsA, putsA_get r (o + 1) _ m (by simp at h ⊢; omega)]
    simp at h
    by_cases h1 : o + 1 ≤ m ∧ m < o + 1 + r.length
    · rw [if_pos h1, if_pos (by simp; omega), show m - o = (m - (o + 1)) + 1 by omega, List.getElem?_cons_succ]
    · rw [if_neg h1]
      by_cases h2 : m = o
      · subst h2
        rw [if_pos (by simp), Nat.sub_self, Array.getElem?_setIfInBounds_self_of_lt (by omega)]
        rfl
      · rw [if_neg (by simp; omega), Array.getElem?_setIfInBounds_ne (by omega)]
theorem erase_puts (cur : Array Value) (n i : Nat) (z : Value) (hi : i < n) (hn : n ≤ cur.size) :
    (putsA (putsA cur i ((cur.toList.take n).drop (i + 1))) (n - 1) [z]).toList.take (n - 1) = (cur.toList.take n).eraseIdx i := by
  have hl : ((cur.toList.take n).drop (i + 1)).length = n - (i + 1) := by simp; omega
  apply List.ext_getElem?
  intro m
  rw [List.getElem?_take, List.getElem?_eraseIdx, Array.getElem?_toList]
  by_cases hm : m < n - 1
  · rw [if_pos hm, putsA_get _ _ _ _ (by rw [putsA_size]; simp; omega), if_neg (by simp; omega), putsA_get _ _ _ _ (by rw [hl]; omega)]
    by_cases h1 : m < i
    · rw [if_neg (by omega), if_pos h1, List.getElem?_take, if_pos (by omega), Array.getElem?_toList]
    · rw [if_pos (by rw [hl]; omega), if_neg h1, List.getElem?_drop, show i + 1 + (m - i) = m + 1 by omega]
  · rw [if_neg hm]
    symm
    split
    · omega
    · rw [List.getElem?_take, if_neg (by omega)]
set_option maxRecDepth 100000 in
set_option maxHeartbeats 4000000 in
theorem delStr_calls (B g n cap i : Nat) (xs : List Value) (w : World) (h : w.ownsRow B 9 1 (.slice (some ⟨g, 0, none⟩) n cap) n xs) (hi : i < n) (hn : n ≤ 10000000) (h1 : ∀ u ∈ xs, u.oneCell' = true) :
    Calls Tryz.prog 175 #[.slice (some ⟨g, 0, none⟩) n cap, .int .i64 i, .int .i64 ((i + 1 : Nat) : Int)] w fun e w' => e = .returned (.slice (some ⟨g, 0, none⟩) (n - 1) cap) ∧ w'.ownsRow B 9 1 (.slice (some ⟨g, 0, none⟩) (n - 1) cap) (n - 1) (xs.eraseIdx i) ∧ Below B w w' ∧ Only g w w' := by
  obtain ⟨hnc, hcm⟩ := own_cap h
  have hxl : xs.length = n := by have := own_len h; omega
  obtain ⟨j, hj⟩ : ∃ j, j = i + 1 := ⟨_, rfl⟩
  rw [← hj]
  have HJ := Lib.hid hj
  have b1 : (i : Int) ≤ (j : Int) := by omega
  have b2 : (j : Int) ≤ (n : Int) := by omega
  have b3 : (n : Int) ≤ (cap : Int) := by omega
  have b4 : (i : Int) ≤ (n : Int) := by omega
  have b5 : (i : Int) ≠ (j : Int) := by omega
  have b6 : (i : Int) ≤ (cap : Int) := by omega
  have c1 : i ≤ j := by omega
  have c2 : j ≤ n := by omega
  have c3 : i ≤ n := by omega
  have c4 : i ≤ cap := by omega
  have c5 : i ≠ j := by omega
  have HO := Lib.hid h
  clear hj h
  go_enter Tryz.func175, Tryz.ntmps175
  go_wp2_with fail
  obtain ⟨ht, _, _, i0, z, hi0, hz, hsz, hby, hzs⟩ := appStr
  have hz1 : z = .string ⟨#[]⟩ := by
    have h0 : (Tryz.prog.info? 9).map (fun i => i.zero) = some (some (.string ⟨#[]⟩)) := by kernel_rfl
    rw [hi0] at h0
    simp only [Option.map_some, Option.some.injEq] at h0
    rw [hz] at h0
    exact Option.some.inj h0
  have hzz : z.cells = #[z] := by rw [hz1]; rfl
  have hz2 : z.oneCell' = true := by rw [hz1]; rfl
  have hz3 := Lib.hid (show ∀ W, (zeroValue 9).run Tryz.prog W = .ok z W from fun W => by simp [zeroValue, typeInfo, hi0, hz])
  clear hz1
  have RD : ∀ m u, (xs.drop j)[m]? = some u → w.drew.cell? ((⟨g, j, none⟩ : Addr).add m) = some u := by
    intro m u hu
    rw [List.getElem?_drop] at hu
    rw [show (⟨g, j, none⟩ : Addr).add m = ⟨g, j + m, none⟩ from by unfold Addr.add; split <;> simp_all]
    exact (own_isBlk HO.out (j + m) u hu).1
  have SP : ∀ m, m < (xs.drop j).length → (w.drew.cell? ⟨g, 0 + i * 1 + m, none⟩).isSome = true ∧ w.drew.frozen? ⟨g, 0 + i * 1 + m, none⟩ = false := by
    intro m hm
    rw [List.length_drop] at hm
    have hm2 : i + m < xs.length := by omega
    obtain ⟨q1, q2, _, _⟩ := own_isBlk HO.out (i + m) _ (List.getElem?_eq_getElem hm2)
    rw [show 0 + i * 1 + m = i + m by omega]
    exact ⟨by rw [show w.drew.cell? ⟨g, i + m, none⟩ = w.cell? ⟨g, i + m, none⟩ from rfl, q1]; rfl, q2⟩
  have HL := Lib.hid (show (xs.drop j).length = (n - j) * 1 by simp; omega)
  have RD' := Lib.hid RD
  have SP' := Lib.hid SP
  have H1' := Lib.hid (show ∀ u ∈ xs.drop j, u.oneCell' = true from fun u hu => h1 u (List.mem_of_mem_drop hu))
  obtain ⟨ys, hys⟩ : ∃ ys, ys = xs.drop j := ⟨_, rfl⟩
  rw [← hys] at HL RD' SP' H1'
  have YS := Lib.hid hys
  have XL := Lib.hid hxl
  clear RD SP hys hxl h1
  by_cases hcj : cap = j
  · have RDn : ∀ m u, ys[m]? = some u → w.drew.cell? ((⟨g, 0, none⟩ : Addr).add m) = some u := fun m u hu => by
      have h0 : ys = [] := List.eq_nil_of_length_eq_zero (by have := HL.out; omega)
      rw [h0] at hu; cases hu
    go_region_law (refine step_append_room rfl _ _ _ rfl 9 i0 1 ht hi0 hsz g 0 i cap (by go_simp) ⟨g, 0, none⟩ (n - j) (cap - j) ys (by go_simp) HL.out RDn H1'.out (by omega) SP'.out ?_)
    all_goals (
      have tokC : True := trivial
      obtain ⟨q, hq⟩ : ∃ q, q = i + (n - j) := ⟨_, rfl⟩
      have HQN := Lib.hid (show q = n - 1 by have := HJ.out; omega)
      have hq1 : n - q = 1 := by have := HQN.out; omega
      have hq' : i + (n - j) = q := hq.symm
      have hq3 : (i : Int) + ((n - j : Nat) : Int) = (q : Int) := by omega
      have hq4 : q ≤ n := by have := HQN.out; omega
      have hq5 : q < cap := by have := HQN.out; omega
      have hq6 : ¬ cap = q := by omega
      clear hq
      obtain ⟨_, hbk⟩ := HO.out
      rcases hbk with ⟨hb0, _⟩ | ⟨g', cap', cur, hv, hBg, hh, _, _, hs, ht2⟩
      · cases hb0
      cases hv
      rw [Nat.mul_one] at hs ht2
      have hyl : ys.length = n - j := by have := HL.out; omega
      have X1 := Lib.hid (show isBlk (w.drew.setCells g i ys) g 9 (putsA cur i ys) from isBlk.puts ys i (isBlk.drew hh))
      have hqs : q < (putsA cur i ys).size := by rw [putsA_size]; have := HQN.out; omega
      have CR := Lib.run_clear_slice (P := Tryz.prog) (w.drew.setCells g i ys) 32 9 0 z ht hz3.out hzz hz2 g q 1 (cap - q) (by decide) (fun m hm => by
        obtain rfl : m = 0 := by omega
        rw [X1.out.at (q + 0) hqs]; rfl) (fun m _ => X1.out.frozen _)
      go_wp2_with (have _tc := tokC; refine clear_run _ rfl (.tmp 31) 32 rfl (.slice (some ⟨g, q, none⟩) 1 (cap - q)) (by go_simp; first | done | rw [hq1]) _ _ CR ?_; clear tokC _tc)
      go_ret
      have X2 := isBlk.puts (List.replicate 1 z) q X1.out
      have EP := erase_puts cur n i z hi (by omega)
      have on := ((Only.refl g w).drew.trans (Only.sets g ys i w.drew)).trans (Only.sets g (List.replicate 1 z) q _)
      have hy2 : ys = (cur.toList.take n).drop (i + 1) := by rw [YS.out, ht2, HJ.out]
      rw [← hy2, ht2, ← HQN.out] at EP
      refine ⟨by rw [HQN.out]; first | rfl | (rw [hcj]; rfl), ⟨by rw [List.length_eraseIdx, if_pos (by omega)]; omega, .inr ⟨g, cap, _, rfl, hBg, X2, by omega, by unfold maxLen; omega, by rw [putsA_size, putsA_size]; omega, ?_⟩⟩, on.below hBg (by have := isBlk.lt hh; omega), on⟩
      rw [Nat.mul_one, ← HQN.out]
      exact EP)
  · go_region_law (refine step_append_room rfl _ _ _ rfl 9 i0 1 ht hi0 hsz g 0 i cap (by go_simp) ⟨g, j, none⟩ (n - j) (cap - j) ys (by go_simp) HL.out RD'.out H1'.out (by omega) SP'.out ?_)
    all_goals (
      have tokC : True := trivial
      obtain ⟨q, hq⟩ : ∃ q, q = i + (n - j) := ⟨_, rfl⟩
      have HQN := Lib.hid (show q = n - 1 by have := HJ.out; omega)
      have hq1 : n - q = 1 := by have := HQN.out; omega
      have hq' : i + (n - j) = q := hq.symm
      have hq3 : (i : Int) + ((n - j : Nat) : Int) = (q : Int) := by omega
      have hq4 : q ≤ n := by have := HQN.out; omega
      have hq5 : q < cap := by have := HQN.out; omega
      have hq6 : ¬ cap = q := by omega
      clear hq
      obtain ⟨_, hbk⟩ := HO.out
      rcases hbk with ⟨hb0, _⟩ | ⟨g', cap', cur, hv, hBg, hh, _, _, hs, ht2⟩
      · cases hb0
      cases hv
      rw [Nat.mul_one] at hs ht2
      have hyl : ys.length = n - j := by have := HL.out; omega
      have X1 := Lib.hid (show isBlk (w.drew.setCells g i ys) g 9 (putsA cur i ys) from isBlk.puts ys i (isBlk.drew hh))
      have hqs : q < (putsA cur i ys).size := by rw [putsA_size]; have := HQN.out; omega
      have CR := Lib.run_clear_slice (P := Tryz.prog) (w.drew.setCells g i ys) 32 9 0 z ht hz3.out hzz hz2 g q 1 (cap - q) (by decide) (fun m hm => by
        obtain rfl : m = 0 := by omega
        rw [X1.out.at (q + 0) hqs]; rfl) (fun m _ => X1.out.frozen _)
      go_wp2_with (have _tc := tokC; refine clear_run _ rfl (.tmp 31) 32 rfl (.slice (some ⟨g, q, none⟩) 1 (cap - q)) (by go_simp; first | done | rw [hq1]) _ _ CR ?_; clear tokC _tc)
      go_ret
      have X2 := isBlk.puts (List.replicate 1 z) q X1.out
      have EP := erase_puts cur n i z hi (by omega)
      have on := ((Only.refl g w).drew.trans (Only.sets g ys i w.drew)).trans (Only.sets g (List.replicate 1 z) q _)
      have hy2 : ys = (cur.toList.take n).drop (i + 1) := by rw [YS.out, ht2, HJ.out]
      rw [← hy2, ht2, ← HQN.out] at EP
      refine ⟨by rw [HQN.out]; first | rfl | (rw [hcj]; rfl), ⟨by rw [List.length_eraseIdx, if_pos (by omega)]; omega, .inr ⟨g, cap, _, rfl, hBg, X2, by omega, by unfold maxLen; omega, by rw [putsA_size, putsA_size]; omega, ?_⟩⟩, on.below hBg (by have := isBlk.lt hh; omega), on⟩
      rw [Nat.mul_one, ← HQN.out]
      exact EP)
set_option maxRecDepth 100000 in
set_option maxHeartbeats 4000000 in
theorem delPtr_calls (B g n cap i : Nat) (xs : List Value) (w : World) (h : w.ownsRow B 123 1 (.slice (some ⟨g, 0, none⟩) n cap) n xs) (hi : i < n) (hn : n ≤ 10000000) (h1 : ∀ u ∈ xs, u.oneCell' = true) :
    Calls Tryz.prog 176 #[.slice (some ⟨g, 0, none⟩) n cap, .int .i64 i, .int .i64 ((i + 1 : Nat) : Int)] w fun e w' => e = .returned (.slice (some ⟨g, 0, none⟩) (n - 1) cap) ∧ w'.ownsRow B 123 1 (.slice (some ⟨g, 0, none⟩) (n - 1) cap) (n - 1) (xs.eraseIdx i) ∧ Below B w w' ∧ Only g w w' := by
  obtain ⟨hnc, hcm⟩ := own_cap h
  have hxl : xs.length = n := by have := own_len h; omega
  obtain ⟨j, hj⟩ : ∃ j, j = i + 1 := ⟨_, rfl⟩
  rw [← hj]
  have HJ := Lib.hid hj
  have b1 : (i : Int) ≤ (j : Int) := by omega
  have b2 : (j : Int) ≤ (n : Int) := by omega
  have b3 : (n : Int) ≤ (cap : Int) := by omega
  have b4 : (i : Int) ≤ (n : Int) := by omega
  have b5 : (i : Int) ≠ (j : Int) := by omega
  have b6 : (i : Int) ≤ (cap : Int) := by omega
  have c1 : i ≤ j := by omega
  have c2 : j ≤ n := by omega
  have c3 : i ≤ n := by omega
  have c4 : i ≤ cap := by omega
  have c5 : i ≠ j := by omega
  have HO := Lib.hid h
  clear hj h
  go_enter Tryz.func176, Tryz.ntmps176
  go_wp2_with fail
  obtain ⟨ht, _, _, i0, z, hi0, hz, hsz, hby, hzs⟩ := appPtr
  have hz1 : z = .pointer none := by
    have h0 : (Tryz.prog.info? 123).map (fun i => i.zero) = some (some (.pointer none)) := by kernel_rfl
    rw [hi0] at h0
    simp only [Option.map_some, Option.some.injEq] at h0
    rw [hz] at h0
    exact Option.some.inj h0
  have hzz : z.cells = #[z] := by rw [hz1]; rfl
  have hz2 : z.oneCell' = true := by rw [hz1]; rfl
  have hz3 := Lib.hid (show ∀ W, (zeroValue 123).run Tryz.prog W = .ok z W from fun W => by simp [zeroValue, typeInfo, hi0, hz])
  clear hz1
  have RD : ∀ m u, (xs.drop j)[m]? = some u → w.drew.cell? ((⟨g, j, none⟩ : Addr).add m) = some u := by
    intro m u hu
    rw [List.getElem?_drop] at hu
    rw [show (⟨g, j, none⟩ : Addr).add m = ⟨g, j + m, none⟩ from by unfold Addr.add; split <;> simp_all]
    exact (own_isBlk HO.out (j + m) u hu).1
  have SP : ∀ m, m < (xs.drop j).length → (w.drew.cell? ⟨g, 0 + i * 1 + m, none⟩).isSome = true ∧ w.drew.frozen? ⟨g, 0 + i * 1 + m, none⟩ = false := by
    intro m hm
    rw [List.length_drop] at hm
    have hm2 : i + m < xs.length := by omega
    obtain ⟨q1, q2, _, _⟩ := own_isBlk HO.out (i + m) _ (List.getElem?_eq_getElem hm2)
    rw [show 0 + i * 1 + m = i + m by omega]
    exact ⟨by rw [show w.drew.cell? ⟨g, i + m, none⟩ = w.cell? ⟨g, i + m, none⟩ from rfl, q1]; rfl, q2⟩
  have HL := Lib.hid (show (xs.drop j).length = (n - j) * 1 by simp; omega)
  have RD' := Lib.hid RD
  have SP' := Lib.hid SP
  have H1' := Lib.hid (show ∀ u ∈ xs.drop j, u.oneCell' = true from fun u hu => h1 u (List.mem_of_mem_drop hu))
  obtain ⟨ys, hys⟩ : ∃ ys, ys = xs.drop j := ⟨_, rfl⟩
  rw [← hys] at HL RD' SP' H1'
  have YS := Lib.hid hys
  have XL := Lib.hid hxl
  clear RD SP hys hxl h1
  by_cases hcj : cap = j
  · have RDn : ∀ m u, ys[m]? = some u → w.drew.cell? ((⟨g, 0, none⟩ : Addr).add m) = some u := fun m u hu => by
      have h0 : ys = [] := List.eq_nil_of_length_eq_zero (by have := HL.out; omega)
      rw [h0] at hu; cases hu
    go_region_law (refine step_append_room rfl _ _ _ rfl 123 i0 1 ht hi0 hsz g 0 i cap (by go_simp) ⟨g, 0, none⟩ (n - j) (cap - j) ys (by go_simp) HL.out RDn H1'.out (by omega) SP'.out ?_)
    all_goals (
      have tokC : True := trivial
      obtain ⟨q, hq⟩ : ∃ q, q = i + (n - j) := ⟨_, rfl⟩
      have HQN := Lib.hid (show q = n - 1 by have := HJ.out; omega)
      have hq1 : n - q = 1 := by have := HQN.out; omega
      have hq' : i + (n - j) = q := hq.symm
      have hq3 : (i : Int) + ((n - j : Nat) : Int) = (q : Int) := by omega
      have hq4 : q ≤ n := by have := HQN.out; omega
      have hq5 : q < cap := by have := HQN.out; omega
      have hq6 : ¬ cap = q := by omega
      clear hq
      obtain ⟨_, hbk⟩ := HO.out
      rcases hbk with ⟨hb0, _⟩ | ⟨g', cap', cur, hv, hBg, hh, _, _, hs, ht2⟩
      · cases hb0
      cases hv
      rw [Nat.mul_one] at hs ht2
      have hyl : ys.length = n - j := by have := HL.out; omega
      have X1 := Lib.hid (show isBlk (w.drew.setCells g i ys) g 123 (putsA cur i ys) from isBlk.puts ys i (isBlk.drew hh))
      have hqs : q < (putsA cur i ys).size := by rw [putsA_size]; have := HQN.out; omega
      have CR := Lib.run_clear_slice (P := Tryz.prog) (w.drew.setCells g i ys) 120 123 0 z ht hz3.out hzz hz2 g q 1 (cap - q) (by decide) (fun m hm => by
        obtain rfl : m = 0 := by omega
        rw [X1.out.at (q + 0) hqs]; rfl) (fun m _ => X1.out.frozen _)
      go_wp2_with (have _tc := tokC; refine clear_run _ rfl (.tmp 31) 120 rfl (.slice (some ⟨g, q, none⟩) 1 (cap - q)) (by go_simp; first | done | rw [hq1]) _ _ CR ?_; clear tokC _tc)
      go_ret
      have X2 := isBlk.puts (List.replicate 1 z) q X1.out
      have EP := erase_puts cur n i z hi (by omega)
      have on := ((Only.refl g w).drew.trans (Only.sets g ys i w.drew)).trans (Only.sets g (List.replicate 1 z) q _)
      have hy2 : ys = (cur.toList.take n).drop (i + 1) := by rw [YS.out, ht2, HJ.out]
      rw [← hy2, ht2, ← HQN.out] at EP
      refine ⟨by rw [HQN.out]; first | rfl | (rw [hcj]; rfl), ⟨by rw [List.length_eraseIdx, if_pos (by omega)]; omega, .inr ⟨g, cap, _, rfl, hBg, X2, by omega, by unfold maxLen; omega, by rw [putsA_size, putsA_size]; omega, ?_⟩⟩, on.below hBg (by have := isBlk.lt hh; omega), on⟩
      rw [Nat.mul_one, ← HQN.out]
      exact EP)
  · go_region_law (refine step_append_room rfl _ _ _ rfl 123 i0 1 ht hi0 hsz g 0 i cap (by go_simp) ⟨g, j, none⟩ (n - j) (cap - j) ys (by go_simp) HL.out RD'.out H1'.out (by omega) SP'.out ?_)
    all_goals (
      have tokC : True := trivial
      obtain ⟨q, hq⟩ : ∃ q, q = i + (n - j) := ⟨_, rfl⟩
      have HQN := Lib.hid (show q = n - 1 by have := HJ.out; omega)
      have hq1 : n - q = 1 := by have := HQN.out; omega
      have hq' : i + (n - j) = q := hq.symm
      have hq3 : (i : Int) + ((n - j : Nat) : Int) = (q : Int) := by omega
      have hq4 : q ≤ n := by have := HQN.out; omega
      have hq5 : q < cap := by have := HQN.out; omega
      have hq6 : ¬ cap = q := by omega
      clear hq
      obtain ⟨_, hbk⟩ := HO.out
      rcases hbk with ⟨hb0, _⟩ | ⟨g', cap', cur, hv, hBg, hh, _, _, hs, ht2⟩
      · cases hb0
      cases hv
      rw [Nat.mul_one] at hs ht2
      have hyl : ys.length = n - j := by have := HL.out; omega
      have X1 := Lib.hid (show isBlk (w.drew.setCells g i ys) g 123 (putsA cur i ys) from isBlk.puts ys i (isBlk.drew hh))
      have hqs : q < (putsA cur i ys).size := by rw [putsA_size]; have := HQN.out; omega
      have CR := Lib.run_clear_slice (P := Tryz.prog) (w.drew.setCells g i ys) 120 123 0 z ht hz3.out hzz hz2 g q 1 (cap - q) (by decide) (fun m hm => by
        obtain rfl : m = 0 := by omega
        rw [X1.out.at (q + 0) hqs]; rfl) (fun m _ => X1.out.frozen _)
      go_wp2_with (have _tc := tokC; refine clear_run _ rfl (.tmp 31) 120 rfl (.slice (some ⟨g, q, none⟩) 1 (cap - q)) (by go_simp; first | done | rw [hq1]) _ _ CR ?_; clear tokC _tc)
      go_ret
      have X2 := isBlk.puts (List.replicate 1 z) q X1.out
      have EP := erase_puts cur n i z hi (by omega)
      have on := ((Only.refl g w).drew.trans (Only.sets g ys i w.drew)).trans (Only.sets g (List.replicate 1 z) q _)
      have hy2 : ys = (cur.toList.take n).drop (i + 1) := by rw [YS.out, ht2, HJ.out]
      rw [← hy2, ht2, ← HQN.out] at EP
      refine ⟨by rw [HQN.out]; first | rfl | (rw [hcj]; rfl), ⟨by rw [List.length_eraseIdx, if_pos (by omega)]; omega, .inr ⟨g, cap, _, rfl, hBg, X2, by omega, by unfold maxLen; omega, by rw [putsA_size, putsA_size]; omega, ?_⟩⟩, on.below hBg (by have := isBlk.lt hh; omega), on⟩
      rw [Nat.mul_one, ← HQN.out]
      exact EP)
end Go.Proofs.YtmlfnidckfeebaaGreatDoor
namespace Go.Proofs.YtmlfnidckfeebaaGreatDoor
open Go.RowKit Go.Shelf
theorem setRow_isBlk {w : World} {g : Nat} {t : TypeId} {cs cs' : Array Value} (h : isBlk w g t cs) : isBlk (w.setRow g cs') g t cs' := setRow_heap w g cs cs' t (0, 0) h
section
variable {P : Program} {ops : Array Oper} {rest : List Oper} {o : Oper} {a : Act} {Q : Exit → Act → World → Prop} {w : World}
theorem own_more {w : World} {B g n cap : Nat} {e : TypeId} {xs : List Value} (h : w.ownsRow B e 1 (.slice (some ⟨g, 0, none⟩) n cap) n xs) (hc : n < cap) :
    ∃ y, w.ownsRow B e 1 (.slice (some ⟨g, 0, none⟩) (n + 1) cap) (n + 1) (xs ++ [y]) := by
  obtain ⟨hl, h⟩ := h
  rcases h with ⟨h, _⟩ | ⟨g', cap', cur, hv, hb, hh, hn, hm, hs, ht⟩
  · cases h
  · cases hv
    rw [Nat.mul_one] at hl hs ht
    have hy : n < cur.toList.length := by simp; omega
    refine ⟨cur.toList[n], by simp [hl], .inr ⟨g, cap, cur, rfl, hb, hh, by omega, hm, by omega, ?_⟩⟩
    rw [Nat.mul_one, ← ht, List.take_succ_eq_append_getElem hy]
theorem own_less {w : World} {B g n cap : Nat} {e : TypeId} {xs : List Value} (h : w.ownsRow B e 1 (.slice (some ⟨g, 0, none⟩) n cap) n xs) (i : Nat) (hi : i ≤ n) :
    w.ownsRow B e 1 (.slice (some ⟨g, 0, none⟩) i cap) i (xs.take i) := by
  obtain ⟨hl, h⟩ := h
  rcases h with ⟨h, _⟩ | ⟨g', cap', cur, hv, hb, hh, hn, hm, hs, ht⟩
  · cases h
  · cases hv
    rw [Nat.mul_one] at hl hs ht
    refine ⟨by simp; omega, .inr ⟨g, cap, cur, rfl, hb, hh, by omega, hm, by omega, ?_⟩⟩
    rw [Nat.mul_one, ← ht, List.take_take, Nat.min_eq_left hi]
theorem copy_own (hgd : o.guard = none) (d x : Operand) {t u e : TypeId} (ho : o.op = .call { callee := .builtin .copy, args := #[d, x], argTypes := #[t, u] }) (ht : P.underlying t = some (.slice e)) (hi : (P.info? e).map (·.size) = some 1)
    (B g n cap : Nat) (xs : List Value) (hown : w.ownsRow B e 1 (.slice (some ⟨g, 0, none⟩) n cap) n xs) (k dl dc : Nat) (hd : a.eval d = .slice (some ⟨g, k, none⟩) dl dc) (hk : k + dl = n)
    (X : Addr) (sl sc : Nat) (hx : a.eval x = .slice (some X) sl sc) (cs : List Value) (hcl : cs.length = Nat.min sl dl) (hsrc : ∀ j v, cs[j]? = some v → w.cell? (X.add j) = some v) (h1 : ∀ v ∈ cs, v.oneCell' = true)
    (h : ∀ w', w'.ownsRow B e 1 (.slice (some ⟨g, 0, none⟩) n cap) n (xs.take k ++ cs ++ xs.drop (k + cs.length)) → Only g w w' → Below B w w' → wpList P ops Q rest (a.put o.dst (.int .i64 cs.length)) w') : wpList P ops Q (o :: rest) a w := by
  have hcd : cs.length ≤ dl := by rw [hcl]; exact Nat.min_le_right _ _
  obtain ⟨hl, hb⟩ := hown
  rcases hb with ⟨hb, _⟩ | ⟨g', cap', cur, hv, hb, hh, hn, hm, hs, ht2⟩
  · cases hb
  cases hv
  rw [Nat.mul_one] at hl hs ht2
  have hrun := run_copy_row P w t u o.type e g k dl dc X sl sc cur e cs ht hi hh hcl hsrc (by omega) h1
  refine wpList_plain hgd fun K hK => ?_
  unfold Oper.wp execOp
  simp only [ho, resolve, invoke, builtin, Sem.run_bind, Sem.run_pure, Result.andThen_ok, List.map_toArray, List.map_cons, List.map_nil, hd, hx, hrun]
  have X2 : isBlk (w.setRow g (cur.toList.take k ++ cs ++ cur.toList.drop (k + cs.length)).toArray) g e _ := setRow_isBlk hh
  refine hK _ _ (h _ ⟨?_, .inr ⟨g, cap, _, rfl, hb, X2, hn, hm, ?_, ?_⟩⟩ (Only.setRow g _ w) ((Only.setRow g _ w).below hb (by have := isBlk.lt hh; omega)))
  · simp; omega
  · simp; omega
  · rw [Nat.mul_one]
    apply List.ext_getElem?
    intro m
    have hxm : ∀ j, xs[j]? = if j < n then cur.toList[j]? else none := fun j => by rw [← ht2, List.getElem?_take]
    simp only [List.getElem?_take, List.getElem?_append, List.getElem?_drop, hxm, List.length_append, List.length_take, Array.length_toList]
    rw [show min k cur.size = k by omega, show min k xs.length = k by omega]
    by_cases m1 : m < k
    · have m2 : m < k + cs.length := by omega
      have m3 : m < n := by omega
      simp only [m1, m2, m3, if_true]
    · by_cases m2 : m < k + cs.length
      · have m3 : m < n := by omega
        simp only [m1, m2, m3, if_true, if_false]
      · have e : k + cs.length + (m - (k + cs.length)) = m := by omega
        simp only [m2, if_false, e]
theorem app_grow {t tn e : TypeId} {bytes : Nat} (hst : AppStat P t e 1 bytes) (htn : P.underlying tn = some (.int .i64)) (hgd : o.guard = none) (s x : Operand) (ho : o.op = .call { callee := .builtin .append, args := #[s, x], argTypes := #[t, tn] })
    (B g n cap : Nat) (xs : List Value) (hown : w.ownsRow B e 1 (.slice (some ⟨g, 0, none⟩) n cap) n xs) (k m : Nat) (hm : n + k = m) (hk : 0 < k) (hs : a.eval s = .slice (some ⟨g, 0, none⟩) n cap) (hx : a.eval x = .int .i64 k) (hg : cap < m) (hcap : m * bytes ≤ 140737488355328)
    (h : ∀ g' cap' zs w', w.heap.size ≤ g' → zs.length = k → w'.ownsRow w.heap.size e 1 (.slice (some ⟨g', 0, none⟩) m cap') m (xs ++ zs) → Ext w w' → wpList P ops Q rest (a.put o.dst (.slice (some ⟨g', 0, none⟩) m cap')) w') : wpList P ops Q (o :: rest) a w := by
  subst hm
  obtain ⟨ht, hz0, hb0, i, z, hi, hz, hsz, hby, hzs⟩ := hst
  have hnb : (n + k) ≤ (n + k) * bytes := Nat.le_mul_of_pos_right _ hb0
  have h63 : ((n + k : Nat) : Int) ≤ 9223372036854775807 := by omega
  have hxl := own_len hown
  rw [Nat.mul_one] at hxl
  have hold : (Builtin.firstCells i.size n (.slice (some ⟨g, 0, none⟩) n cap)).run P w.drew = .ok xs.toArray w.drew := by
    have hl := run_loadCells_list (P := P) w.drew ⟨g, 0, none⟩ xs fun m u hu => by
      rw [show (⟨g, 0, none⟩ : Addr).add m = ⟨g, m, none⟩ from by unfold Addr.add; split <;> simp_all]
      exact (own_isBlk hown m u hu).1
    rw [hxl] at hl
    rw [hsz]
    simpa [Builtin.firstCells] using hl
  have hkb : k * bytes ≤ (n + k) * bytes := Nat.mul_le_mul_right _ (by omega)
  have hnx : Builtin.nextslicecap (n + k) cap * i.bytes ≤ 281474976710656 := by
    rw [hby]
    exact growslice_fits hg hcap
  have run := Lib.run_append_grow_zeros (P := P) w t tn o.type e i z .i64 .i64 ht htn hi hz (some ⟨g, 0, none⟩) n cap xs hold k hk (by omega) hg h63 (by rw [hby]; omega) hnx
  refine Lib.wpList_append_run w hgd s x t tn ho _ _ hs hx _ _ run ?_
  have hg1 : n + k ≤ grownCap w (n + k) cap e := grownCap_ge w _ _ _
  have hg2 := grownCap_le_maxLen w (n + k) cap e (by unfold maxLen; omega)
  have hzc : ∀ k, (Builtin.zeroCells z.cells k).size = k := fun k => by simp [Builtin.zeroCells, hzs]
  have hzc2 : ∀ k, (Builtin.zeroCells z.cells k).toList.length = k := fun k => by rw [Array.length_toList, hzc]
  refine h w.heap.size _ (Builtin.zeroCells z.cells k).toList _ (Nat.le_refl _) (hzc2 k) ⟨by simp [hxl, hzc], .inr ⟨w.heap.size, _, _, rfl, Nat.le_refl _, heap_alloc_new w.drew _, hg1, hg2, ?_, ?_⟩⟩ ((Below.refl _ _).drew.alloc (Nat.le_refl _) _)
  · simp only [Array.size_append, hzc]
    simp [hxl]
    omega
  · rw [Nat.mul_one, Array.toList_append, Array.toList_append, List.take_append_of_le_length (by simp [hxl, hzc]), List.take_of_length_le (by simp [hxl, hzc])]
theorem at_cpy {xs : Array Operand} {ts : Array TypeId} (_ho : o.op = .call { callee := .builtin .copy, args := xs, argTypes := ts }) (h : wpList P ops Q (o :: rest) a w) : wpList P ops Q (o :: rest) a w := h
end
theorem isBlk.read {w : World} {g : Nat} {t : TypeId} {cs : Array Value} (h : isBlk w g t cs) (j : Nat) (v : Value) (hj : cs.toList[j]? = some v) : w.cell? ((⟨g, 0, none⟩ : Addr).add j) = some v := by
  rw [show (⟨g, 0, none⟩ : Addr).add j = ⟨g, j, none⟩ from by unfold Addr.add; split <;> simp_all, h.cell j]
  simpa using hj
theorem isBlk.one {w : World} {g : Nat} {t : TypeId} {u : Value} (h : isBlk w g t #[u]) : Cells w (some ⟨g, 0, none⟩) [u] := fun _ => ⟨g, 0, rfl, fun j v hj => by rw [Nat.zero_add, h.cell j]; simpa using hj⟩
theorem own_lower {w : World} {B B' n : Nat} {e : TypeId} {size : Nat} {v : Value} {xs : List Value} (h : w.ownsRow B e size v n xs) (hB : B' ≤ B) : w.ownsRow B' e size v n xs := by
  refine ⟨h.1, ?_⟩
  rcases h.2 with h | ⟨g, cap, cur, h1, h2, h3⟩
  · exact .inl h
  · exact .inr ⟨g, cap, cur, h1, Nat.le_trans hB h2, h3⟩
theorem below_lower {w w' : World} {B B' : Nat} (h : Below B w w') (hB : B' ≤ B) : Below B' w w' := ⟨h.os, h.tape, h.output, h.size, fun k hk => h.block k (Nat.lt_of_lt_of_le hk hB)⟩
theorem ins_grow (xs zs : List Value) (u : Value) (i : Nat) (hi : i ≤ xs.length) (hz : zs.length = xs.length + 1 - i) :
    (List.take (i + 1) ((xs.take i ++ zs).take i ++ [u] ++ (xs.take i ++ zs).drop (i + [u].length)) ++ xs.drop i ++ List.drop (i + 1 + (xs.drop i).length) ((xs.take i ++ zs).take i ++ [u] ++ (xs.take i ++ zs).drop (i + [u].length))) = xs.take i ++ u :: xs.drop i := by
  have hl : (xs.take i).length = i := by simp; omega
  have e1 : (xs.take i ++ zs).take i = xs.take i := by rw [List.take_append_of_le_length (by omega), List.take_of_length_le (by omega)]
  have e2 : ((xs.take i ++ [u]) : List Value).length = i + 1 := by simp; omega
  have e3 : List.drop (i + 1 + (xs.drop i).length) (xs.take i ++ [u] ++ (xs.take i ++ zs).drop (i + [u].length)) = [] := List.drop_eq_nil_of_le (by simp; omega)
  rw [e1, e3, List.append_nil, List.take_append_of_le_length (by omega), List.take_of_length_le (by omega), List.append_assoc]
  rfl
theorem ins_room (xs : List Value) (y u : Value) (i : Nat) (hi : i ≤ xs.length) :
    (List.take i (List.take (i + 1) (xs ++ [y]) ++ xs.drop i ++ List.drop (i + 1 + (xs.drop i).length) (xs ++ [y])) ++ [u] ++ List.drop (i + [u].length) (List.take (i + 1) (xs ++ [y]) ++ xs.drop i ++ List.drop (i + 1 + (xs.drop i).length) (xs ++ [y]))) = xs.take i ++ u :: xs.drop i := by
  have e0 : List.drop (i + 1 + (xs.drop i).length) (xs ++ [y]) = [] := List.drop_eq_nil_of_le (by simp; omega)
  have e1 : ((xs ++ [y]).take (i + 1)).length = i + 1 := by simp; omega
  have e2 : ((xs ++ [y]).take (i + 1)).take i = xs.take i := by rw [List.take_take, Nat.min_eq_left (by omega), List.take_append_of_le_length hi]
  rw [e0, List.append_nil, List.take_append_of_le_length (by omega), e2, List.append_assoc]
  congr 1
  rw [show i + [u].length = ((xs ++ [y]).take (i + 1)).length by rw [e1]; rfl, List.drop_left]
  rfl
end Go.Proofs.YtmlfnidckfeebaaGreatDoor
