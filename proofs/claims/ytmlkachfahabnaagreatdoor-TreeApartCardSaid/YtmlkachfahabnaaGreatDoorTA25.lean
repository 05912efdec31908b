/- Walks: slices.Delete of one. -/
import Derived.Test.YtmlkachfahabnaaGreatDoorTA24
namespace Go.Proofs.YtmlkachfahabnaaGreatDoor
open Go.RowKit Go.Shelf
attribute [local go_sem] yUpon strOf_toList
theorem clear_run {P : Program} (w : World) {ops : Array Oper} {rest : List Oper} {o : Oper} {a : Act} {Q : Exit → Act → World → Prop} (hgd : o.guard = none) (x : Operand) (t : TypeId)
    (ho : o.op = .call { callee := .builtin .clear, args := #[x], argTypes := #[t] }) (vx : Value) (hx : a.eval x = vx)
    (v' : Value) (w' : World) (hr : (Builtin.clear_ #[t] o.type #[vx]).run P w = .ok v' w') (h : wpList P ops Q rest (a.put o.dst v') w') : wpList P ops Q (o :: rest) a w := by
  refine wpList_plain hgd fun K hK => ?_
  unfold Oper.wp execOp
  simp only [ho, resolve, invoke, builtin, Sem.run_bind, Sem.run_pure, Result.andThen_ok, List.map_toArray, List.map_cons, List.map_nil, hx, hr]
  exact hK _ _ h
theorem putsA_size : ∀ (vs : List Value) (o : Nat) (cs : Array Value), (putsA cs o vs).size = cs.size
  | [], _, _ => rfl
  | v :: r, o, cs => by rw [putsA, putsA_size r, Array.size_setIfInBounds]
theorem putsA_get : ∀ (vs : List Value) (o : Nat) (cs : Array Value) (m : Nat), o + vs.length ≤ cs.size → (putsA cs o vs)[m]? = if o ≤ m ∧ m < o + vs.length then vs[m - o]? else cs[m]?
  | [], o, cs, m, _ => by rw [if_neg (by rw [List.length_nil]; omega)]; rfl
  | v :: r, o, cs, m, h => by
    rw [putsA, putsA_get r (o + 1) _ m (by simp at h ⊢; omega)]
    simp at h
    by_cases h1 : o + 1 ≤ m ∧ m < o + 1 + r.length
    · rw [if_pos h1, if_pos (by simp; omega), show m - o = (m - (o + 1)) + 1 by omega, List.getElem?_cons_succ]
    · rw [if_neg h1]
      by_cases h2 : m = o
      · subst h2
        rw [if_pos (by simp), Nat.sub_self, Array.getElem?_setIfInBounds_self_of_lt (by omega)]
        rfl
      · rw [if_neg (by simp; omega), Array.getElem?_setIfInBounds_ne (by omega)]
/-- A row out of which one is taken. -/
theorem erase_puts (cur : Array Value) (n i : Nat) (z : Value) (hi : i < n) (hn : n ≤ cur.size) :
    (putsA (putsA cur i ((cur.toList.take n).drop (i + 1))) (n - 1) [z]).toList.take (n - 1) = (cur.toList.take n).eraseIdx i := by
  have hl : ((cur.toList.take n).drop (i + 1)).length = n - (i + 1) := by simp; omega
  apply List.ext_getElem?
  intro m
  rw [List.getElem?_take, List.getElem?_eraseIdx, Array.getElem?_toList]
  by_cases hm : m < n - 1
  · rw [if_pos hm, putsA_get _ _ _ _ (by rw [putsA_size]; simp; omega), if_neg (by simp; omega), putsA_get _ _ _ _ (by rw [hl]; omega)]
    by_cases h1 : m < i
    · rw [if_neg (by omega), if_pos h1, List.getElem?_take, if_pos (by omega), Array.getElem?_toList]
    · rw [if_pos (by rw [hl]; omega), if_neg h1, List.getElem?_drop, show i + 1 + (m - i) = m + 1 by omega]
  · rw [if_neg hm]
    symm
    split
    · omega
    · rw [List.getElem?_take, if_neg (by omega)]
set_option maxRecDepth 100000 in
set_option maxHeartbeats 4000000 in
theorem delStr_calls (B g n cap i : Nat) (xs : List Value) (w : World) (h : w.ownsRow B 9 1 (.slice (some ⟨g, 0, none⟩) n cap) n xs) (hi : i < n) (hn : n ≤ 10000000) (h1 : ∀ u ∈ xs, u.oneCell' = true) :
    Calls Tryz.prog 69 #[.slice (some ⟨g, 0, none⟩) n cap, .int .i64 i, .int .i64 ((i + 1 : Nat) : Int)] w fun e w' => e = .returned (.slice (some ⟨g, 0, none⟩) (n - 1) cap) ∧ w'.ownsRow B 9 1 (.slice (some ⟨g, 0, none⟩) (n - 1) cap) (n - 1) (xs.eraseIdx i) ∧ Below B w w' ∧ Only g w w' := by
  obtain ⟨hnc, hcm⟩ := own_cap h
  have hxl : xs.length = n := by have := own_len h; omega
  obtain ⟨j, hj⟩ : ∃ j, j = i + 1 := ⟨_, rfl⟩
  rw [← hj]
  have HJ := Lib.hid hj
  have b1 : (i : Int) ≤ (j : Int) := by omega
  have b2 : (j : Int) ≤ (n : Int) := by omega
  have b3 : (n : Int) ≤ (cap : Int) := by omega
  have b4 : (i : Int) ≤ (n : Int) := by omega
  have b5 : (i : Int) ≠ (j : Int) := by omega
  have b6 : (i : Int) ≤ (cap : Int) := by omega
  have c1 : i ≤ j := by omega
  have c2 : j ≤ n := by omega
  have c3 : i ≤ n := by omega
  have c4 : i ≤ cap := by omega
  have c5 : i ≠ j := by omega
  have HO := Lib.hid h
  clear hj h
  go_enter Tryz.func69, Tryz.ntmps69
  go_wp2_with fail
  obtain ⟨ht, _, _, i0, z, hi0, hz, hsz, hby, hzs⟩ := appStr
  have hz1 : z = .string ⟨#[]⟩ := by
    have h0 : (Tryz.prog.info? 9).map (fun i => i.zero) = some (some (.string ⟨#[]⟩)) := by kernel_rfl
    rw [hi0] at h0
    simp only [Option.map_some, Option.some.injEq] at h0
    rw [hz] at h0
    exact Option.some.inj h0
  have hzz : z.cells = #[z] := by rw [hz1]; rfl
  have hz2 : z.oneCell' = true := by rw [hz1]; rfl
  have hz3 := Lib.hid (show ∀ W, (zeroValue 9).run Tryz.prog W = .ok z W from fun W => by simp [zeroValue, typeInfo, hi0, hz])
  clear hz1
  have RD : ∀ m u, (xs.drop j)[m]? = some u → w.drew.cell? ((⟨g, j, none⟩ : Addr).add m) = some u := by
    intro m u hu
    rw [List.getElem?_drop] at hu
    rw [show (⟨g, j, none⟩ : Addr).add m = ⟨g, j + m, none⟩ from by unfold Addr.add; split <;> simp_all]
    exact (own_isBlk HO.out (j + m) u hu).1
  have SP : ∀ m, m < (xs.drop j).length → (w.drew.cell? ⟨g, 0 + i * 1 + m, none⟩).isSome = true ∧ w.drew.frozen? ⟨g, 0 + i * 1 + m, none⟩ = false := by
    intro m hm
    rw [List.length_drop] at hm
    have hm2 : i + m < xs.length := by omega
    obtain ⟨q1, q2, _, _⟩ := own_isBlk HO.out (i + m) _ (List.getElem?_eq_getElem hm2)
    rw [show 0 + i * 1 + m = i + m by omega]
    exact ⟨by rw [show w.drew.cell? ⟨g, i + m, none⟩ = w.cell? ⟨g, i + m, none⟩ from rfl, q1]; rfl, q2⟩
  have HL := Lib.hid (show (xs.drop j).length = (n - j) * 1 by simp; omega)
  have RD' := Lib.hid RD
  have SP' := Lib.hid SP
  have H1' := Lib.hid (show ∀ u ∈ xs.drop j, u.oneCell' = true from fun u hu => h1 u (List.mem_of_mem_drop hu))
  obtain ⟨ys, hys⟩ : ∃ ys, ys = xs.drop j := ⟨_, rfl⟩
  rw [← hys] at HL RD' SP' H1'
  have YS := Lib.hid hys
  have XL := Lib.hid hxl
  clear RD SP hys hxl h1
  by_cases hcj : cap = j
  · have RDn : ∀ m u, ys[m]? = some u → w.drew.cell? ((⟨g, 0, none⟩ : Addr).add m) = some u := fun m u hu => by
      have h0 : ys = [] := List.eq_nil_of_length_eq_zero (by have := HL.out; omega)
      rw [h0] at hu; cases hu
    go_region_law (refine step_append_room rfl _ _ _ rfl 9 i0 1 ht hi0 hsz g 0 i cap (by go_simp) ⟨g, 0, none⟩ (n - j) (cap - j) ys (by go_simp) HL.out RDn H1'.out (by omega) SP'.out ?_)
    all_goals (
      have tokC : True := trivial
      obtain ⟨q, hq⟩ : ∃ q, q = i + (n - j) := ⟨_, rfl⟩
      have HQN := Lib.hid (show q = n - 1 by have := HJ.out; omega)
      have hq1 : n - q = 1 := by have := HQN.out; omega
      have hq' : i + (n - j) = q := hq.symm
      have hq3 : (i : Int) + ((n - j : Nat) : Int) = (q : Int) := by omega
      have hq4 : q ≤ n := by have := HQN.out; omega
      have hq5 : q < cap := by have := HQN.out; omega
      have hq6 : ¬ cap = q := by omega
      clear hq
      obtain ⟨_, hbk⟩ := HO.out
      rcases hbk with ⟨hb0, _⟩ | ⟨g', cap', cur, hv, hBg, hh, _, _, hs, ht2⟩
      · cases hb0
      cases hv
      rw [Nat.mul_one] at hs ht2
      have hyl : ys.length = n - j := by have := HL.out; omega
      have X1 := Lib.hid (show isBlk (w.drew.setCells g i ys) g 9 (putsA cur i ys) from isBlk.puts ys i (isBlk.drew hh))
      have hqs : q < (putsA cur i ys).size := by rw [putsA_size]; have := HQN.out; omega
      have CR := Lib.run_clear_slice (P := Tryz.prog) (w.drew.setCells g i ys) 37 9 0 z ht hz3.out hzz hz2 g q 1 (cap - q) (by decide) (fun m hm => by
        obtain rfl : m = 0 := by omega
        rw [X1.out.at (q + 0) hqs]; rfl) (fun m _ => X1.out.frozen _)
      go_wp2_with (have _tc := tokC; refine clear_run _ rfl (.tmp 31) 37 rfl (.slice (some ⟨g, q, none⟩) 1 (cap - q)) (by go_simp; first | done | rw [hq1]) _ _ CR ?_; clear tokC _tc)
      go_ret
      have X2 := isBlk.puts (List.replicate 1 z) q X1.out
      have EP := erase_puts cur n i z hi (by omega)
      have on := ((Only.refl g w).drew.trans (Only.sets g ys i w.drew)).trans (Only.sets g (List.replicate 1 z) q _)
      have hy2 : ys = (cur.toList.take n).drop (i + 1) := by rw [YS.out, ht2, HJ.out]
      rw [← hy2, ht2, ← HQN.out] at EP
      refine ⟨by rw [HQN.out]; first | rfl | (rw [hcj]; rfl), ⟨by rw [List.length_eraseIdx, if_pos (by omega)]; omega, .inr ⟨g, cap, _, rfl, hBg, X2, by omega, by unfold maxLen; omega, by rw [putsA_size, putsA_size]; omega, ?_⟩⟩, on.below hBg (by have := isBlk.lt hh; omega), on⟩
      rw [Nat.mul_one, ← HQN.out]
      exact EP)
  · go_region_law (refine step_append_room rfl _ _ _ rfl 9 i0 1 ht hi0 hsz g 0 i cap (by go_simp) ⟨g, j, none⟩ (n - j) (cap - j) ys (by go_simp) HL.out RD'.out H1'.out (by omega) SP'.out ?_)
    all_goals (
      have tokC : True := trivial
      obtain ⟨q, hq⟩ : ∃ q, q = i + (n - j) := ⟨_, rfl⟩
      have HQN := Lib.hid (show q = n - 1 by have := HJ.out; omega)
      have hq1 : n - q = 1 := by have := HQN.out; omega
      have hq' : i + (n - j) = q := hq.symm
      have hq3 : (i : Int) + ((n - j : Nat) : Int) = (q : Int) := by omega
      have hq4 : q ≤ n := by have := HQN.out; omega
      have hq5 : q < cap := by have := HQN.out; omega
      have hq6 : ¬ cap = q := by omega
      clear hq
      obtain ⟨_, hbk⟩ := HO.out
      rcases hbk with ⟨hb0, _⟩ | ⟨g', cap', cur, hv, hBg, hh, _, _, hs, ht2⟩
      · cases hb0
      cases hv
      rw [Nat.mul_one] at hs ht2
      have hyl : ys.length = n - j := by have := HL.out; omega
      have X1 := Lib.hid (show isBlk (w.drew.setCells g i ys) g 9 (putsA cur i ys) from isBlk.puts ys i (isBlk.drew hh))
      have hqs : q < (putsA cur i ys).size := by rw [putsA_size]; have := HQN.out; omega
      have CR := Lib.run_clear_slice (P := Tryz.prog) (w.drew.setCells g i ys) 37 9 0 z ht hz3.out hzz hz2 g q 1 (cap - q) (by decide) (fun m hm => by
        obtain rfl : m = 0 := by omega
        rw [X1.out.at (q + 0) hqs]; rfl) (fun m _ => X1.out.frozen _)
      go_wp2_with (have _tc := tokC; refine clear_run _ rfl (.tmp 31) 37 rfl (.slice (some ⟨g, q, none⟩) 1 (cap - q)) (by go_simp; first | done | rw [hq1]) _ _ CR ?_; clear tokC _tc)
      go_ret
      have X2 := isBlk.puts (List.replicate 1 z) q X1.out
      have EP := erase_puts cur n i z hi (by omega)
      have on := ((Only.refl g w).drew.trans (Only.sets g ys i w.drew)).trans (Only.sets g (List.replicate 1 z) q _)
      have hy2 : ys = (cur.toList.take n).drop (i + 1) := by rw [YS.out, ht2, HJ.out]
      rw [← hy2, ht2, ← HQN.out] at EP
      refine ⟨by rw [HQN.out]; first | rfl | (rw [hcj]; rfl), ⟨by rw [List.length_eraseIdx, if_pos (by omega)]; omega, .inr ⟨g, cap, _, rfl, hBg, X2, by omega, by unfold maxLen; omega, by rw [putsA_size, putsA_size]; omega, ?_⟩⟩, on.below hBg (by have := isBlk.lt hh; omega), on⟩
      rw [Nat.mul_one, ← HQN.out]
      exact EP)
set_option maxRecDepth 100000 in
set_option maxHeartbeats 4000000 in
theorem delPtr_calls (B g n cap i : Nat) (xs : List Value) (w : World) (h : w.ownsRow B 57 1 (.slice (some ⟨g, 0, none⟩) n cap) n xs) (hi : i < n) (hn : n ≤ 10000000) (h1 : ∀ u ∈ xs, u.oneCell' = true) :
    Calls Tryz.prog 70 #[.slice (some ⟨g, 0, none⟩) n cap, .int .i64 i, .int .i64 ((i + 1 : Nat) : Int)] w fun e w' => e = .returned (.slice (some ⟨g, 0, none⟩) (n - 1) cap) ∧ w'.ownsRow B 57 1 (.slice (some ⟨g, 0, none⟩) (n - 1) cap) (n - 1) (xs.eraseIdx i) ∧ Below B w w' ∧ Only g w w' := by
  obtain ⟨hnc, hcm⟩ := own_cap h
  have hxl : xs.length = n := by have := own_len h; omega
  obtain ⟨j, hj⟩ : ∃ j, j = i + 1 := ⟨_, rfl⟩
  rw [← hj]
  have HJ := Lib.hid hj
  have b1 : (i : Int) ≤ (j : Int) := by omega
  have b2 : (j : Int) ≤ (n : Int) := by omega
  have b3 : (n : Int) ≤ (cap : Int) := by omega
  have b4 : (i : Int) ≤ (n : Int) := by omega
  have b5 : (i : Int) ≠ (j : Int) := by omega
  have b6 : (i : Int) ≤ (cap : Int) := by omega
  have c1 : i ≤ j := by omega
  have c2 : j ≤ n := by omega
  have c3 : i ≤ n := by omega
  have c4 : i ≤ cap := by omega
  have c5 : i ≠ j := by omega
  have HO := Lib.hid h
  clear hj h
  go_enter Tryz.func70, Tryz.ntmps70
  go_wp2_with fail
  obtain ⟨ht, _, _, i0, z, hi0, hz, hsz, hby, hzs⟩ := appPtr
  have hz1 : z = .pointer none := by
    have h0 : (Tryz.prog.info? 57).map (fun i => i.zero) = some (some (.pointer none)) := by kernel_rfl
    rw [hi0] at h0
    simp only [Option.map_some, Option.some.injEq] at h0
    rw [hz] at h0
    exact Option.some.inj h0
  have hzz : z.cells = #[z] := by rw [hz1]; rfl
  have hz2 : z.oneCell' = true := by rw [hz1]; rfl
  have hz3 := Lib.hid (show ∀ W, (zeroValue 57).run Tryz.prog W = .ok z W from fun W => by simp [zeroValue, typeInfo, hi0, hz])
  clear hz1
  have RD : ∀ m u, (xs.drop j)[m]? = some u → w.drew.cell? ((⟨g, j, none⟩ : Addr).add m) = some u := by
    intro m u hu
    rw [List.getElem?_drop] at hu
    rw [show (⟨g, j, none⟩ : Addr).add m = ⟨g, j + m, none⟩ from by unfold Addr.add; split <;> simp_all]
    exact (own_isBlk HO.out (j + m) u hu).1
  have SP : ∀ m, m < (xs.drop j).length → (w.drew.cell? ⟨g, 0 + i * 1 + m, none⟩).isSome = true ∧ w.drew.frozen? ⟨g, 0 + i * 1 + m, none⟩ = false := by
    intro m hm
    rw [List.length_drop] at hm
    have hm2 : i + m < xs.length := by omega
    obtain ⟨q1, q2, _, _⟩ := own_isBlk HO.out (i + m) _ (List.getElem?_eq_getElem hm2)
    rw [show 0 + i * 1 + m = i + m by omega]
    exact ⟨by rw [show w.drew.cell? ⟨g, i + m, none⟩ = w.cell? ⟨g, i + m, none⟩ from rfl, q1]; rfl, q2⟩
  have HL := Lib.hid (show (xs.drop j).length = (n - j) * 1 by simp; omega)
  have RD' := Lib.hid RD
  have SP' := Lib.hid SP
  have H1' := Lib.hid (show ∀ u ∈ xs.drop j, u.oneCell' = true from fun u hu => h1 u (List.mem_of_mem_drop hu))
  obtain ⟨ys, hys⟩ : ∃ ys, ys = xs.drop j := ⟨_, rfl⟩
  rw [← hys] at HL RD' SP' H1'
  have YS := Lib.hid hys
  have XL := Lib.hid hxl
  clear RD SP hys hxl h1
  by_cases hcj : cap = j
  · have RDn : ∀ m u, ys[m]? = some u → w.drew.cell? ((⟨g, 0, none⟩ : Addr).add m) = some u := fun m u hu => by
      have h0 : ys = [] := List.eq_nil_of_length_eq_zero (by have := HL.out; omega)
      rw [h0] at hu; cases hu
    go_region_law (refine step_append_room rfl _ _ _ rfl 57 i0 1 ht hi0 hsz g 0 i cap (by go_simp) ⟨g, 0, none⟩ (n - j) (cap - j) ys (by go_simp) HL.out RDn H1'.out (by omega) SP'.out ?_)
    all_goals (
      have tokC : True := trivial
      obtain ⟨q, hq⟩ : ∃ q, q = i + (n - j) := ⟨_, rfl⟩
      have HQN := Lib.hid (show q = n - 1 by have := HJ.out; omega)
      have hq1 : n - q = 1 := by have := HQN.out; omega
      have hq' : i + (n - j) = q := hq.symm
      have hq3 : (i : Int) + ((n - j : Nat) : Int) = (q : Int) := by omega
      have hq4 : q ≤ n := by have := HQN.out; omega
      have hq5 : q < cap := by have := HQN.out; omega
      have hq6 : ¬ cap = q := by omega
      clear hq
      obtain ⟨_, hbk⟩ := HO.out
      rcases hbk with ⟨hb0, _⟩ | ⟨g', cap', cur, hv, hBg, hh, _, _, hs, ht2⟩
      · cases hb0
      cases hv
      rw [Nat.mul_one] at hs ht2
      have hyl : ys.length = n - j := by have := HL.out; omega
      have X1 := Lib.hid (show isBlk (w.drew.setCells g i ys) g 57 (putsA cur i ys) from isBlk.puts ys i (isBlk.drew hh))
      have hqs : q < (putsA cur i ys).size := by rw [putsA_size]; have := HQN.out; omega
      have CR := Lib.run_clear_slice (P := Tryz.prog) (w.drew.setCells g i ys) 64 57 0 z ht hz3.out hzz hz2 g q 1 (cap - q) (by decide) (fun m hm => by
        obtain rfl : m = 0 := by omega
        rw [X1.out.at (q + 0) hqs]; rfl) (fun m _ => X1.out.frozen _)
      go_wp2_with (have _tc := tokC; refine clear_run _ rfl (.tmp 31) 64 rfl (.slice (some ⟨g, q, none⟩) 1 (cap - q)) (by go_simp; first | done | rw [hq1]) _ _ CR ?_; clear tokC _tc)
      go_ret
      have X2 := isBlk.puts (List.replicate 1 z) q X1.out
      have EP := erase_puts cur n i z hi (by omega)
      have on := ((Only.refl g w).drew.trans (Only.sets g ys i w.drew)).trans (Only.sets g (List.replicate 1 z) q _)
      have hy2 : ys = (cur.toList.take n).drop (i + 1) := by rw [YS.out, ht2, HJ.out]
      rw [← hy2, ht2, ← HQN.out] at EP
      refine ⟨by rw [HQN.out]; first | rfl | (rw [hcj]; rfl), ⟨by rw [List.length_eraseIdx, if_pos (by omega)]; omega, .inr ⟨g, cap, _, rfl, hBg, X2, by omega, by unfold maxLen; omega, by rw [putsA_size, putsA_size]; omega, ?_⟩⟩, on.below hBg (by have := isBlk.lt hh; omega), on⟩
      rw [Nat.mul_one, ← HQN.out]
      exact EP)
  · go_region_law (refine step_append_room rfl _ _ _ rfl 57 i0 1 ht hi0 hsz g 0 i cap (by go_simp) ⟨g, j, none⟩ (n - j) (cap - j) ys (by go_simp) HL.out RD'.out H1'.out (by omega) SP'.out ?_)
    all_goals (
      have tokC : True := trivial
      obtain ⟨q, hq⟩ : ∃ q, q = i + (n - j) := ⟨_, rfl⟩
      have HQN := Lib.hid (show q = n - 1 by have := HJ.out; omega)
      have hq1 : n - q = 1 := by have := HQN.out; omega
      have hq' : i + (n - j) = q := hq.symm
      have hq3 : (i : Int) + ((n - j : Nat) : Int) = (q : Int) := by omega
      have hq4 : q ≤ n := by have := HQN.out; omega
      have hq5 : q < cap := by have := HQN.out; omega
      have hq6 : ¬ cap = q := by omega
      clear hq
      obtain ⟨_, hbk⟩ := HO.out
      rcases hbk with ⟨hb0, _⟩ | ⟨g', cap', cur, hv, hBg, hh, _, _, hs, ht2⟩
      · cases hb0
      cases hv
      rw [Nat.mul_one] at hs ht2
      have hyl : ys.length = n - j := by have := HL.out; omega
      have X1 := Lib.hid (show isBlk (w.drew.setCells g i ys) g 57 (putsA cur i ys) from isBlk.puts ys i (isBlk.drew hh))
      have hqs : q < (putsA cur i ys).size := by rw [putsA_size]; have := HQN.out; omega
      have CR := Lib.run_clear_slice (P := Tryz.prog) (w.drew.setCells g i ys) 64 57 0 z ht hz3.out hzz hz2 g q 1 (cap - q) (by decide) (fun m hm => by
        obtain rfl : m = 0 := by omega
        rw [X1.out.at (q + 0) hqs]; rfl) (fun m _ => X1.out.frozen _)
      go_wp2_with (have _tc := tokC; refine clear_run _ rfl (.tmp 31) 64 rfl (.slice (some ⟨g, q, none⟩) 1 (cap - q)) (by go_simp; first | done | rw [hq1]) _ _ CR ?_; clear tokC _tc)
      go_ret
      have X2 := isBlk.puts (List.replicate 1 z) q X1.out
      have EP := erase_puts cur n i z hi (by omega)
      have on := ((Only.refl g w).drew.trans (Only.sets g ys i w.drew)).trans (Only.sets g (List.replicate 1 z) q _)
      have hy2 : ys = (cur.toList.take n).drop (i + 1) := by rw [YS.out, ht2, HJ.out]
      rw [← hy2, ht2, ← HQN.out] at EP
      refine ⟨by rw [HQN.out]; first | rfl | (rw [hcj]; rfl), ⟨by rw [List.length_eraseIdx, if_pos (by omega)]; omega, .inr ⟨g, cap, _, rfl, hBg, X2, by omega, by unfold maxLen; omega, by rw [putsA_size, putsA_size]; omega, ?_⟩⟩, on.below hBg (by have := isBlk.lt hh; omega), on⟩
      rw [Nat.mul_one, ← HQN.out]
      exact EP)
end Go.Proofs.YtmlkachfahabnaaGreatDoor
