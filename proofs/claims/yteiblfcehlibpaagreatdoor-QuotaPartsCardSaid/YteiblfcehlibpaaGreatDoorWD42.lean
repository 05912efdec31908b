/- Walks: slices.IndexFunc and slices.DeleteFunc at entries. -/
import Derived.Test.YteiblfcehlibpaaGreatDoorWD41
import Derived.Test.YteiblfcehlibpaaGreatDoorWD25
namespace Go.Proofs.YteiblfcehlibpaaGreatDoor
open Go.RowKit Go.Shelf
attribute [local go_sem] yUpon strOf_toList
/-- An entry in memory: where its leaf lies, its room, what it is. -/
abbrev E3 := Option Addr × Nat × Sp.DE
def e3V (x : E3) : Value := .agg #[.string (strOf x.2.2.1), .slice x.1 x.2.2.2.length x.2.1]
def idxI (p : E3 → Bool) (mo : List E3) : Int := match mo.findIdx? p with | some k => (k : Int) | none => -1
abbrev entO : TypeId → Prop := fun t => t = 51
theorem ents_cell {w : World} {A : Option Addr} {mo : List E3} (h : Cells w A (entsC mo)) (hn : 0 < mo.length) : ∃ g o, A = some ⟨g, o, none⟩ ∧ ∀ k (hk : k < mo.length), w.cell? ⟨g, o + k * 2, none⟩ = some (.string (strOf mo[k].2.2.1)) ∧ w.cell? ⟨g, o + k * 2 + 1, none⟩ = some (.slice mo[k].1 mo[k].2.2.2.length mo[k].2.1) := by
  obtain ⟨g, o, hA, hc⟩ := h (by intro e; have := entsC_len mo; rw [e] at this; simp at this; omega)
  refine ⟨g, o, hA, fun k hk => ⟨?_, ?_⟩⟩
  · have := entsC_get mo k 0 hk (by omega)
    exact hc (k * 2) _ this
  · have := entsC_get mo k 1 hk (by omega)
    rw [Nat.add_assoc]
    exact hc (k * 2 + 1) _ this
theorem idx_some {p : E3 → Bool} {mo : List E3} {k : Nat} (h : k < mo.length) (h1 : p mo[k] = true) (h2 : ∀ i (hi : i < mo.length), i < k → p mo[i] = false) : mo.findIdx? p = some k := by
  rw [List.findIdx?_eq_some_iff_getElem]
  exact ⟨h, h1, fun j hj => by simpa using h2 j (by omega) hj⟩
theorem idx_none {p : E3 → Bool} {mo : List E3} (h2 : ∀ i (hi : i < mo.length), p mo[i] = false) : mo.findIdx? p = none := by
  rw [List.findIdx?_eq_none_iff]
  intro x hx
  obtain ⟨i, hi, rfl⟩ := List.getElem_of_mem hx
  exact h2 i hi
set_option maxRecDepth 100000 in
set_option maxHeartbeats 4000000 in
theorem index_calls (mo : List E3) (A : Option Addr) (cap : Nat) (f : FuncId) (bs : Array Value) (p : E3 → Bool) (J : World → Prop) (w : World) (hl : mo.length ≤ 1000000) (eg : ∀ args w, (callFunc f args).run Tryz.prog w = .ok (.enter f args) w)
    (hJ : ∀ W W', J W → Ext W W' → J W') (hc : Cells w A (entsC mo)) (hF : ∀ W, J W → ∀ x ∈ mo, Calls Tryz.prog f (#[e3V x] ++ bs) W fun e W' => e = .returned (.bool (p x)) ∧ Ext W W') (h0 : J w) :
    Calls Tryz.prog 140 #[.slice A mo.length cap, .func (.func f) #[] bs] w fun e w' => e = .returned (.int .i64 (idxI p mo)) ∧ Ext w w' := by
  have HJ := Lib.hid hJ
  have HC := Lib.hid hc
  have HF := Lib.hid hF
  have H0 := Lib.hid h0
  clear hJ hc hF h0
  go_enter Tryz.func140, Tryz.ntmps140
  go_wp2
  go_loopw [8] (fun v8 wr => ∃ k : Nat, k ≤ mo.length ∧ v8 = .int .i64 k ∧ (∀ i (h : i < mo.length), i < k → p mo[i] = false) ∧ J wr ∧ Ext w wr) (fun v8 _ => mo.length - (intOf v8).toNat)
  case atStart => exact ⟨0, Nat.zero_le _, rfl, fun i _ h => absurd h (Nat.not_lt_zero i), H0.out, Ext.refl _⟩
  case round =>
    obtain ⟨k, hk, rfl, hne, hj, hb⟩ := hrel
    by_cases hlt : k < mo.length
    · obtain ⟨g, o, rfl, hcl⟩ := ents_cell HC.out (by omega)
      obtain ⟨c0, c1⟩ := hcl k hlt
      have c0 := hb.cell c0
      have c1 := hb.cell c1
      have CF := Lib.hid (HF.out wr hj _ (List.getElem_mem hlt))
      have UK := Lib.hid (show p mo[k] = true → idxI p mo = k from fun h => by rw [idxI, idx_some hlt h hne])
      have NK := Lib.hid (show p mo[k] = false → ∀ i (h : i < mo.length), i < k + 1 → p mo[i] = false from fun hh i h1 h2 => by
        by_cases hik : i = k
        · subst hik; exact hh
        · exact hne i h1 (by omega))
      obtain ⟨x, hx⟩ : ∃ x, x = mo[k] := ⟨_, rfl⟩
      rw [← hx] at c0 c1 CF UK NK
      obtain ⟨q, hq⟩ : ∃ q, q = p x := ⟨_, rfl⟩
      rw [← hq] at CF UK NK
      obtain ⟨x1, x2, x3, x4⟩ := x
      have JW := Lib.hid hj
      have EW := Lib.hid hb
      have b1 : (k : Int) < (mo.length : Int) := by omega
      clear hne hj hb hcl hx hq
      go_wp2_with fail
      refine CF.out.mono ?_
      rintro e w2 ⟨rfl, hb2⟩
      have E2 := Lib.hid (EW.out.trans hb2)
      have J2 := Lib.hid (HJ.out _ _ JW.out hb2)
      clear hb2 c0 c1
      cases q with
      | true =>
        have UK2 := Lib.hid (UK.out rfl)
        go_wp2
        go_ret
        exact ⟨by rw [UK2.out]; rfl, E2.out⟩
      | false =>
        have NK2 := Lib.hid (NK.out rfl)
        go_wp2
        go_roundw
        case rel => exact ⟨k + 1, by omega, by go_num, NK2.out, J2.out, E2.out⟩
        case measure => simp [intOf]; omega
    · obtain rfl : k = mo.length := by omega
      have UN := Lib.hid (idx_none (fun i h => hne i h h))
      have EW := Lib.hid hb
      clear hne hj hb
      go_wp2
      go_ret
      exact ⟨by rw [idxI, UN.out]; rfl, EW.out⟩
theorem entsC_cons (x : E3) (r : List E3) : entsC (x :: r) = .string (strOf x.2.2.1) :: .slice x.1 x.2.2.2.length x.2.1 :: entsC r := rfl
theorem entsC_take : ∀ (mo : List E3) (k : Nat), (entsC mo).take (k * 2) = entsC (mo.take k)
  | [], k => by simp [entsC]
  | x :: r, 0 => by simp [entsC]
  | x :: r, k + 1 => by
    rw [show (k + 1) * 2 = k * 2 + 1 + 1 by omega, List.take_succ_cons, entsC_cons, entsC_cons, List.take_succ_cons, List.take_succ_cons, entsC_take r k]
theorem entsC_one : ∀ (mo : List E3), ∀ u ∈ entsC mo, u.oneCell' = true
  | [], u, h => by cases h
  | x :: r, u, h => by
    rw [entsC_cons] at h
    rcases List.mem_cons.1 h with rfl | h
    · rfl
    rcases List.mem_cons.1 h with rfl | h
    · rfl
    · exact entsC_one r u h
theorem entsC_set (x : E3) : ∀ (mo : List E3) (k : Nat), k < mo.length → ((entsC mo).set (k * 2) (.string (strOf x.2.2.1))).set (k * 2 + 1) (.slice x.1 x.2.2.2.length x.2.1) = entsC (mo.set k x)
  | y :: r, 0, _ => rfl
  | y :: r, k + 1, h => by
    have := entsC_set x r k (by simpa using h)
    rw [show (k + 1) * 2 = k * 2 + 1 + 1 by omega, entsC_cons, List.set_cons_succ, List.set_cons_succ, List.set_cons_succ, List.set_cons_succ, this, List.set_cons_succ, entsC_cons]
theorem run_clear_two {P : Program} (w : World) (t e ty : TypeId) (z : Value) (x y : Value) (ht : P.underlying t = some (.slice e)) (hv : ∀ w, (zeroValue e).run P w = .ok z w) (hz : z.cells = #[x, y]) (h1 : x.oneCell' = true) (h2 : y.oneCell' = true) (b o n c : Nat) (hn : 0 < n)
    (hc : ∀ j, j < n * 2 → (w.cell? ⟨b, o + j, none⟩).isSome = true) (hf : ∀ j, j < n * 2 → w.frozen? ⟨b, o + j, none⟩ = false) :
    ∃ ys : List Value, ys.length = n * 2 ∧ (∀ u ∈ ys, u.oneCell' = true) ∧ (Builtin.clear_ #[t] ty #[.slice (some ⟨b, o, none⟩) n c]).run P w = .ok (.tuple #[]) (w.setCells b o ys) := by
  obtain ⟨ys, hys⟩ : ∃ ys, ys = (Builtin.zeroCells z.cells n).toList := ⟨_, rfl⟩
  have hl : ys.length = n * 2 := by rw [hys, hz]; simp [Builtin.zeroCells]
  have ho : ∀ u ∈ ys, u.oneCell' = true := by
    intro u hu
    rw [hys, hz] at hu
    simp only [Builtin.zeroCells, Array.toList_map, List.mem_map] at hu
    obtain ⟨i, _, rfl⟩ := hu
    rcases Nat.mod_two_eq_zero_or_one i with h | h <;> simp [h, h1, h2]
  have hst := run_storeCells_cells (P := P) b o ys 0 w (by rw [hl]; simpa using hc) (by rw [hl]; simpa using hf) ho
  simp only [Nat.add_zero] at hst
  obtain ⟨m, rfl⟩ : ∃ m, n = m + 1 := ⟨n - 1, by omega⟩
  refine ⟨ys, hl, ho, ?_⟩
  simp [Builtin.clear_, run_underlying ht, hv, ← hys, hst]
theorem own_take {w : World} {B g n cap : Nat} {e : TypeId} {size : Nat} {xs : List Value} (h : w.ownsRow B e size (.slice (some ⟨g, 0, none⟩) n cap) n xs) (k : Nat) (hk : k ≤ n) :
    w.ownsRow B e size (.slice (some ⟨g, 0, none⟩) k cap) k (xs.take (k * size)) := by
  obtain ⟨hl, h⟩ := h
  refine ⟨by rw [List.length_take, hl]; exact Nat.min_eq_left (Nat.mul_le_mul_right _ hk), ?_⟩
  rcases h with ⟨h, _⟩ | ⟨g', cap', cur, hv, hb, hh, hn, hc, hs, ht⟩
  · cases h
  · cases hv
    refine .inr ⟨g, cap, cur, rfl, hb, hh, Nat.le_trans hk hn, hc, hs, ?_⟩
    rw [← ht, List.take_take, Nat.min_eq_left (Nat.mul_le_mul_right _ hk)]
theorem KB.of_only {T : TypeId → Prop} {B g : Nat} {t : TypeId} {cs : Array Value} {w w' : World} (hx : isBlk w g t cs) (hT : T t) (hB : B ≤ g) (h : Only g w w') : KB T B w w' :=
  ⟨h.below hB (Nat.le_trans hB (Nat.le_of_lt hx.lt)), fun k cs' t' f hk ht => (h.block k (Array.getElem?_eq_some_iff.1 hk).1 (fun e => by
    subst e
    rw [show w.heap[k]? = _ from hx] at hk
    cases hk
    exact ht hT)).trans hk⟩
/-- What is kept of the first so many. -/
def keptE (p : E3 → Bool) (mo : List E3) (j : Nat) : List E3 := (mo.take j).filter fun x => !p x
theorem keptE_succ (p : E3 → Bool) (mo : List E3) (j : Nat) (h : j < mo.length) : keptE p mo (j + 1) = keptE p mo j ++ if p mo[j] then [] else [mo[j]] := by
  unfold keptE
  rw [List.take_succ_eq_append_getElem h, List.filter_append]
  congr 1
  cases hp : p mo[j] <;> simp [hp]
theorem keptE_len (p : E3 → Bool) (mo : List E3) (j : Nat) : (keptE p mo j).length ≤ j := Nat.le_trans (List.length_filter_le _ _) (List.length_take_le _ _)
theorem keptE_none {p : E3 → Bool} {mo : List E3} {k : Nat} (h : ∀ i (hi : i < mo.length), i < k → p mo[i] = false) (hk : k ≤ mo.length) : keptE p mo k = mo.take k := by
  unfold keptE
  rw [List.filter_eq_self]
  intro x hx
  obtain ⟨i, hi, rfl⟩ := List.getElem_of_mem hx
  have hi2 : i < k := by rw [List.length_take] at hi; omega
  rw [List.getElem_take, h i (by omega) hi2]
  rfl
set_option maxRecDepth 100000 in
set_option maxHeartbeats 4000000 in
theorem delf_calls (mo : List E3) (v : Value) (B : Nat) (f : FuncId) (bs : Array Value) (p : E3 → Bool) (J : World → Prop) (w : World) (hB : B ≤ w.heap.size) (hl : mo.length ≤ 1000000) (eg : ∀ args w, (callFunc f args).run Tryz.prog w = .ok (.enter f args) w)
    (hJ : ∀ W W', J W → Below B W W' → J W') (ho : w.ownsRow B 51 2 v mo.length (entsC mo)) (hF : ∀ W, J W → ∀ x ∈ mo, Calls Tryz.prog f (#[e3V x] ++ bs) W fun e W' => e = .returned (.bool (p x)) ∧ Ext W W') (h0 : J w) :
    Calls Tryz.prog 99 #[v, .func (.func f) #[] bs] w fun e w' => ∃ v', e = .returned v' ∧ w'.ownsRow B 51 2 v' (keptE p mo mo.length).length (entsC (keptE p mo mo.length)) ∧ KB entO B w w' := by
  obtain ⟨A, cap, rfl, hc⟩ := own_read ho
  have IC := Lib.hid (index_calls mo A cap f bs p (fun W => J W ∧ B ≤ W.heap.size) w hl eg (fun W W' h e => ⟨hJ W W' h.1 (Below.mono e h.2), Nat.le_trans h.2 e.size⟩) hc (fun W h => hF W h.1) ⟨h0, hB⟩)
  have HJ := Lib.hid hJ
  have HO := Lib.hid ho
  have HF := Lib.hid hF
  have H0 := Lib.hid h0
  clear hJ ho hF h0 hc
  go_enter Tryz.func99, Tryz.ntmps99
  go_wp2_with fail
  refine IC.out.mono ?_
  rintro e w1 ⟨rfl, hb1⟩
  have E1 := Lib.hid hb1
  have J1 := Lib.hid (HJ.out _ _ H0.out (Below.mono hb1 hB))
  have O1 := Lib.hid (own_ext HO.out hb1)
  clear hb1
  cases hk : mo.findIdx? p with
  | none =>
    have e1 : idxI p mo = -1 := by rw [idxI, hk]
    have KE := Lib.hid (show keptE p mo mo.length = mo by
      rw [keptE_none (k := mo.length) (fun i hi _ => by
        have := List.findIdx?_eq_none_iff.1 hk mo[i] (List.getElem_mem hi)
        simpa using this) (Nat.le_refl _), List.take_length])
    rw [e1]
    clear hk
    go_wp2_with fail
    go_ret
    exact ⟨_, rfl, by rw [KE.out]; exact O1.out, KB.ext hB E1.out⟩
  | some k =>
    rw [List.findIdx?_eq_some_iff_getElem] at hk
    obtain ⟨hkl, hkp, hkn⟩ := hk
    have e1 : idxI p mo = (k : Int) := by rw [idxI, idx_some hkl hkp (fun i hi h => by have := hkn i h; simpa using this)]
    have e2 : ((k : Int) == -1) = false := by
      rw [beq_eq_false_iff_ne]; omega
    have KK := Lib.hid (show keptE p mo (k + 1) = mo.take k by
      rw [keptE_succ p mo k hkl, if_pos hkp, List.append_nil, keptE_none (fun i hi h => by have := hkn i h; simpa using this) (by omega)])
    obtain ⟨g, cap', eg', hgB⟩ := owned_form O1.out (by omega)
    cases eg'
    obtain ⟨hnc, hcm⟩ := own_cap O1.out
    rw [e1]
    clear hkn hkp e1
    go_wp2_with fail
    go_loopw [5, 6] (fun v5 v6 wr => ∃ j i zs, j ≤ mo.length ∧ v6 = .int .i64 (j : Nat) ∧ v5 = .int .i64 (i : Nat) ∧ i < j ∧ i = (keptE p mo j).length ∧ List.length zs = mo.length ∧ zs.take i = keptE p mo j ∧ zs.drop j = mo.drop j ∧ wr.ownsRow B 51 2 (.slice (some ⟨g, 0, none⟩) mo.length cap) mo.length (entsC zs) ∧ J wr ∧ Only g w1 wr) (fun _ v6 _ => mo.length - (intOf v6).toNat)
    case atStart => exact ⟨k + 1, k, mo, by omega, by go_num, rfl, by omega, by rw [KK.out, List.length_take]; omega, rfl, by rw [KK.out], rfl, O1.out, J1.out, Only.refl _ _⟩
    case round =>
      obtain ⟨j, i, zs, hjl, rfl, rfl, hij, hi, hzl, hzt, hzd, hO, hj, hon⟩ := hrel
      have O := Lib.hid hO
      have JW := Lib.hid hj
      have ON := Lib.hid hon
      have HZT := Lib.hid hzt
      have HZD := Lib.hid hzd
      have HI := Lib.hid hi
      clear hO hj hon hzt hzd hi
      by_cases hlt : j < mo.length
      · have hzj : j < zs.length := by omega
        have hzm : zs[j] = mo[j] := by
          have h1 : (zs.drop j)[0]? = (mo.drop j)[0]? := by rw [HZD.out]
          rw [List.getElem?_drop, List.getElem?_drop, Nat.add_zero, List.getElem?_eq_getElem hzj, List.getElem?_eq_getElem hlt] at h1
          exact Option.some.inj h1
        have hd1 : zs.drop (j + 1) = mo.drop (j + 1) := by
          have := congrArg (List.drop 1) HZD.out
          rwa [List.drop_drop, List.drop_drop] at this
        have cx0 := entsC_get zs j 0 hzj (by omega)
        have cx1 := entsC_get zs j 1 hzj (by omega)
        rw [hzm] at cx0 cx1
        have c0 := (own_isBlk O.out (j * 2) _ cx0).1
        have c1 := (own_isBlk O.out (j * 2 + 1) _ cx1).1
        have CF := Lib.hid fun W (h : J W) => HF.out W h _ (List.getElem_mem hlt)
        have KS := Lib.hid (keptE_succ p mo j hlt)
        have HD1 := Lib.hid hd1
        obtain ⟨x, hx⟩ : ∃ x, x = mo[j] := ⟨_, rfl⟩
        rw [← hx] at c0 c1 CF KS
        have SE := Lib.hid (entsC_set x zs i (by omega))
        have O1' := Lib.hid (fun (W : World) (h : W.ownsRow B 51 2 (.slice (some ⟨g, 0, none⟩) mo.length cap) mo.length (entsC zs)) => own_set (own_set h (i * 2) (by rw [entsC_len]; omega) (.string (strOf x.2.2.1))) (i * 2 + 1) (by rw [List.length_set, entsC_len]; omega) (.slice x.1 x.2.2.2.length x.2.1))
        have hci0 : i < zs.length := by omega
        obtain ⟨z0, hz0⟩ : ∃ u, (entsC zs)[i * 2]? = some u := ⟨_, List.getElem?_eq_getElem (by rw [entsC_len]; omega)⟩
        obtain ⟨z1, hz1⟩ : ∃ u, (entsC zs)[i * 2 + 1]? = some u := ⟨_, List.getElem?_eq_getElem (by rw [entsC_len]; omega)⟩
        have Z0 := Lib.hid hz0
        have Z1 := Lib.hid hz1
        obtain ⟨q, hq⟩ : ∃ q, q = p x := ⟨_, rfl⟩
        rw [← hq] at CF KS
        obtain ⟨x1, x2, x3, x4⟩ := x
        have b1 : (j : Int) < (mo.length : Int) := by omega
        have b2 : (i : Int) < (mo.length : Int) := by omega
        clear hd1 hzm cx0 cx1 hx hq hz0 hz1 hzj
        simp only at c0 c1 SE O1'
        go_upto_region 8 with fail
        obtain ⟨w6, hw6⟩ : ∃ w6, w6 = wr.alloc (.cells #[.string (strOf x3), .slice x1 x4.length x2] 51) := ⟨_, rfl⟩
        have X6 := Lib.hid (show isBlk w6 wr.heap.size 51 #[.string (strOf x3), .slice x1 x4.length x2] by rw [hw6]; exact box_at wr _ _)
        have E6 := Lib.hid (show Ext wr w6 by rw [hw6]; exact Ext.alloc _ _)
        have BW := Lib.hid (show B ≤ wr.heap.size from Nat.le_trans hB (Nat.le_trans E1.out.size ON.out.size))
        rw [← hw6]
        clear hw6 c0 c1
        have k0 := (X6.out.cell 0).trans rfl
        have k1 := (X6.out.cell 1).trans rfl
        go_wp2_with fail
        refine (CF.out w6 (HJ.out _ _ JW.out (Below.mono E6.out BW.out))).mono ?_
        rintro e w7 ⟨rfl, hb7⟩
        have X7 := Lib.hid (X6.out.below hb7)
        have E7 := Lib.hid (E6.out.trans hb7)
        have J7 := Lib.hid (HJ.out _ _ JW.out (Below.mono E7.out BW.out))
        have O7 := Lib.hid (own_ext O.out E7.out)
        have ON7 := Lib.hid (ON.out.trans (Only.of_below g E7.out))
        clear hb7 k0 k1
        cases q with
        | true =>
          have KS2 := Lib.hid (show keptE p mo (j + 1) = keptE p mo j by rw [KS.out]; simp)
          go_wp2
          go_roundw
          case rel => exact ⟨j + 1, i, zs, by omega, by go_num, rfl, by omega, by rw [KS2.out]; exact HI.out, hzl, by rw [KS2.out]; exact HZT.out, HD1.out, O7.out, J7.out, ON7.out⟩
          case measure => simp [intOf]; omega
        | false =>
          have KS2 := Lib.hid (show keptE p mo (j + 1) = keptE p mo j ++ [(x1, x2, x3, x4)] by rw [KS.out]; simp)
          have k0 := (X7.out.cell 0).trans rfl
          have k1 := (X7.out.cell 1).trans rfl
          obtain ⟨s0, s1, _, _⟩ := own_isBlk O7.out (i * 2) z0 Z0.out
          have O8 := Lib.hid (own_set O7.out (i * 2) (by rw [entsC_len]; omega) (.string (strOf x3)))
          obtain ⟨t0, t1, _, _⟩ := own_isBlk O8.out (i * 2 + 1) z1 (by rw [List.getElem?_set_ne (by omega)]; exact Z1.out)
          have O9 := Lib.hid (O1'.out w7 O7.out)
          rw [SE.out] at O9
          obtain ⟨w9, hw9⟩ : ∃ w9, w9 = (w7.setCell ⟨g, i * 2, none⟩ (.string (strOf x3))).setCell ⟨g, i * 2 + 1, none⟩ (.slice x1 x4.length x2) := ⟨_, rfl⟩
          have ON9 := Lib.hid (show Only g w1 w9 by rw [hw9]; exact (ON7.out.trans (Only.set _ _ _ _)).trans (Only.set _ _ _ _))
          have J9 := Lib.hid (show J w9 by
            refine HJ.out _ _ J7.out ?_
            rw [hw9]
            exact ((Only.set g (i * 2) (.string (strOf x3)) w7).trans (Only.set g (i * 2 + 1) (.slice x1 x4.length x2) _)).below hgB (Nat.le_trans BW.out E7.out.size))
          have O10 := Lib.hid (show w9.ownsRow B 51 2 (.slice (some ⟨g, 0, none⟩) mo.length cap) mo.length (entsC (zs.set i (x1, x2, x3, x4))) by rw [hw9]; exact O9.out)
          go_upto_region 10 with fail
          rw [← hw9]
          clear hw9 s0 s1 t0 t1 k0 k1
          go_wp2
          go_roundw
          case rel =>
            refine ⟨j + 1, i + 1, zs.set i (x1, x2, x3, x4), by omega, by go_num, by go_num, by omega, by rw [KS2.out, List.length_append, ← HI.out]; rfl, by rw [List.length_set]; exact hzl, ?_, ?_, O10.out, J9.out, ON9.out⟩
            · rw [KS2.out, ← HZT.out, List.take_succ_eq_append_getElem (by rw [List.length_set]; omega), List.take_set_of_le (Nat.le_refl _)]
              simp
            · rw [List.drop_set_of_lt (by omega)]
              exact HD1.out
          case measure => simp [intOf]; omega
      · obtain rfl : j = mo.length := by omega
        have b1 : (i : Int) ≤ (mo.length : Int) := by omega
        have b2 : (i : Int) ≤ (cap : Int) := by omega
        have b3 : i ≤ cap := by omega
        have b4 : ¬ cap = i := by omega
        have b5 : (mo.length : Int) ≤ (cap : Int) := by omega
        obtain ⟨ht, _, _, i0, z, hi0, hz, hsz, hby, hzs⟩ := appEnt
        have hz1 : z = .agg #[.string ⟨#[]⟩, .slice none 0 0] := by
          have h0 : (Tryz.prog.info? 51).map (fun i => i.zero) = some (some (.agg #[.string ⟨#[]⟩, .slice none 0 0])) := by kernel_rfl
          rw [hi0] at h0
          simp only [Option.map_some, Option.some.injEq] at h0
          rw [hz] at h0
          exact Option.some.inj h0
        have hz3 := Lib.hid (show ∀ W, (zeroValue 51).run Tryz.prog W = .ok z W from fun W => by simp [zeroValue, typeInfo, hi0, hz])
        obtain ⟨ys, hyl, hy1, CR⟩ := run_clear_two (P := Tryz.prog) wr 22 51 0 z (.string ⟨#[]⟩) (.slice none 0 0) ht hz3.out (by rw [hz1]; rfl) rfl rfl g (i * 2) (mo.length - i) (cap - i) (by omega) (fun m hm => by
          have hm2 : i * 2 + m < (entsC zs).length := by rw [entsC_len]; omega
          rw [(own_isBlk O.out (i * 2 + m) _ (List.getElem?_eq_getElem hm2)).1]; rfl) (fun m hm => by
          have hm2 : i * 2 + m < (entsC zs).length := by rw [entsC_len]; omega
          exact (own_isBlk O.out (i * 2 + m) _ (List.getElem?_eq_getElem hm2)).2.1)
        have CR' := Lib.hid CR
        clear CR
        have tokC : True := trivial
        go_wp2_with (have _tc := tokC; refine clear_run _ rfl (.tmp 38) 22 rfl (.slice (some ⟨g, i * 2, none⟩) (mo.length - i) (cap - i)) (by go_simp) _ _ CR'.out ?_; clear tokC _tc)
        go_ret
        obtain ⟨_, hbk⟩ := O.out
        rcases hbk with ⟨hb0, _⟩ | ⟨g', cap', cur, hv, hBg, hh, _, _, hs, ht2⟩
        · cases hb0
        cases hv
        have X1 := Lib.hid (isBlk.puts ys (i * 2) hh)
        have hxg : ∃ cs, isBlk w1 g 51 cs := by
          rcases O1.out.2 with ⟨hb0, _⟩ | ⟨g', cap', cur, hv, _, hh, _⟩
          · cases hb0
          · cases hv; exact ⟨cur, hh⟩
        obtain ⟨cs1, hxg⟩ := hxg
        refine ⟨_, rfl, ⟨by rw [entsC_len], .inr ⟨g, cap, _, by rw [← HI.out]; rfl, hgB, X1.out, by rw [← HI.out]; exact b3, hcm, by rw [putsA_size]; exact hs, ?_⟩⟩, (KB.ext hB E1.out).trans (KB.of_only hxg rfl hgB (ON.out.trans (Only.sets g ys (i * 2) wr)))⟩
        rw [← HI.out, ← HZT.out, ← entsC_take, ← ht2, List.take_take, Nat.min_eq_left (by omega)]
        apply List.ext_getElem?
        intro m
        rw [List.getElem?_take, List.getElem?_take]
        by_cases hm : m < i * 2
        · rw [if_pos hm, if_pos hm, Array.getElem?_toList, Array.getElem?_toList, putsA_get _ _ _ _ (by rw [hs, hyl]; omega), if_neg (by omega)]
        · rw [if_neg hm, if_neg hm]
end Go.Proofs.YteiblfcehlibpaaGreatDoor
