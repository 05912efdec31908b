/- Walks: slices.Delete of one. Copies onto a slice of the call's own; the append of a make onto one. A law for a region that draws its order: first operations that tell one value in every world of a kind T, and may come late; a steady head; an operation that makes something and leaves the kind; a forced tail. -/
import Derived.Laws.CopyRow
import Derived.Lib.Overlaps
import Derived.Test.YtmlfnidckfeebaaGreatDoorP011
namespace Go.Proofs.YtmlfnidckfeebaaGreatDoor
open Go.RowKit Go.Shelf
attribute [local go_sem] yUpon strOf_toList
theorem clear_run {P : Program} (w : World) {ops : Array Oper} {rest : List Oper} {o : Oper} {a : Act} {Q : Exit → Act → World → Prop} (hgd : o.guard = none) (x : Operand) (t : TypeId)
    (ho : o.op = .call { callee := .builtin .clear, args := #[x], argTypes := #[t] }) (vx : Value) (hx : a.eval x = vx)
    (v' : Value) (w' : World) (hr : (Builtin.clear_ #[t] o.type #[vx]).run P w = .ok v' w') (h : wpList P ops Q rest (a.put o.dst v') w') : wpList P ops Q (o :: rest) a w := by
  refine wpList_plain hgd fun K hK => ?_
  unfold Oper.wp execOp
  simp only [ho, resolve, invoke, builtin, Sem.run_bind, Sem.run_pure, Result.andThen_ok, List.map_toArray, List.map_cons, List.map_nil, hx, hr]
  exact hK _ _ h
theorem putsA_size : ∀ (vs : List Value) (o : Nat) (cs : Array Value), (putsA cs o vs).size = cs.size
  | [], _, _ => rfl
  | v :: r, o, cs => by rw [putsA, putsA_size r, Array.size_setIfInBounds]
theorem putsA_get : ∀ (vs : List Value) (o : Nat) (cs : Array Value) (m : Nat), o + vs.length ≤ cs.size → (putsA cs o vs)[m]? = if o ≤ m ∧ m < o + vs.length then vs[m - o]? else cs[m]?
  | [], o, cs, m, _ => by rw [if_neg (by rw [List.length_nil]; omega)]; rfl
  | v :: r, o, cs, m, h => by
    rw [putsA, putsA_get r (o + 1) _ m (by simp at h ⊢; omega)]
    simp at h
    by_cases h1 : o + 1 ≤ m ∧ m < o + 1 + r.length
    · rw [if_pos h1, if_pos (by simp; omega), show m - o = (m - (o + 1)) + 1 by omega, List.getElem?_cons_succ]
    · rw [if_neg h1]
      by_cases h2 : m = o
      · subst h2
        rw [if_pos (by simp), Nat.sub_self, Array.getElem?_setIfInBounds_self_of_lt (by omega)]
        rfl
      · rw [if_neg (by simp; omega), Array.getElem?_setIfInBounds_ne (by omega)]
/-- A row out of which one is taken. -/
theorem erase_puts (cur : Array Value) (n i : Nat) (z : Value) (hi : i < n) (hn : n ≤ cur.size) :
    (putsA (putsA cur i ((cur.toList.take n).drop (i + 1))) (n - 1) [z]).toList.take (n - 1) = (cur.toList.take n).eraseIdx i := by
  have hl : ((cur.toList.take n).drop (i + 1)).length = n - (i + 1) := by simp; omega
  apply List.ext_getElem?
  intro m
  rw [List.getElem?_take, List.getElem?_eraseIdx, Array.getElem?_toList]
  by_cases hm : m < n - 1
  · rw [if_pos hm, putsA_get _ _ _ _ (by rw [putsA_size]; simp; omega), if_neg (by simp; omega), putsA_get _ _ _ _ (by rw [hl]; omega)]
    by_cases h1 : m < i
    · rw [if_neg (by omega), if_pos h1, List.getElem?_take, if_pos (by omega), Array.getElem?_toList]
    · rw [if_pos (by rw [hl]; omega), if_neg h1, List.getElem?_drop, show i + 1 + (m - i) = m + 1 by omega]
  · rw [if_neg hm]
    symm
    split
    · omega
    · rw [List.getElem?_take, if_neg (by omega)]
set_option maxRecDepth 100000 in
set_option maxHeartbeats 4000000 in
theorem delStr_calls (B g n cap i : Nat) (xs : List Value) (w : World) (h : w.ownsRow B 9 1 (.slice (some ⟨g, 0, none⟩) n cap) n xs) (hi : i < n) (hn : n ≤ 10000000) (h1 : ∀ u ∈ xs, u.oneCell' = true) :
    Calls Tryz.prog 175 #[.slice (some ⟨g, 0, none⟩) n cap, .int .i64 i, .int .i64 ((i + 1 : Nat) : Int)] w fun e w' => e = .returned (.slice (some ⟨g, 0, none⟩) (n - 1) cap) ∧ w'.ownsRow B 9 1 (.slice (some ⟨g, 0, none⟩) (n - 1) cap) (n - 1) (xs.eraseIdx i) ∧ Below B w w' ∧ Only g w w' := by
  obtain ⟨hnc, hcm⟩ := own_cap h
  have hxl : xs.length = n := by have := own_len h; omega
  obtain ⟨j, hj⟩ : ∃ j, j = i + 1 := ⟨_, rfl⟩
  rw [← hj]
  have HJ := Lib.hid hj
  have b1 : (i : Int) ≤ (j : Int) := by omega
  have b2 : (j : Int) ≤ (n : Int) := by omega
  have b3 : (n : Int) ≤ (cap : Int) := by omega
  have b4 : (i : Int) ≤ (n : Int) := by omega
  have b5 : (i : Int) ≠ (j : Int) := by omega
  have b6 : (i : Int) ≤ (cap : Int) := by omega
  have c1 : i ≤ j := by omega
  have c2 : j ≤ n := by omega
  have c3 : i ≤ n := by omega
  have c4 : i ≤ cap := by omega
  have c5 : i ≠ j := by omega
  have HO := Lib.hid h
  clear hj h
  go_enter Tryz.func175, Tryz.ntmps175
  go_wp2_with fail
  obtain ⟨ht, _, _, i0, z, hi0, hz, hsz, hby, hzs⟩ := appStr
  have hz1 : z = .string ⟨#[]⟩ := by
    have h0 : (Tryz.prog.info? 9).map (fun i => i.zero) = some (some (.string ⟨#[]⟩)) := by kernel_rfl
    rw [hi0] at h0
    simp only [Option.map_some, Option.some.injEq] at h0
    rw [hz] at h0
    exact Option.some.inj h0
  have hzz : z.cells = #[z] := by rw [hz1]; rfl
  have hz2 : z.oneCell' = true := by rw [hz1]; rfl
  have hz3 := Lib.hid (show ∀ W, (zeroValue 9).run Tryz.prog W = .ok z W from fun W => by simp [zeroValue, typeInfo, hi0, hz])
  clear hz1
  have RD : ∀ m u, (xs.drop j)[m]? = some u → w.drew.cell? ((⟨g, j, none⟩ : Addr).add m) = some u := by
    intro m u hu
    rw [List.getElem?_drop] at hu
    rw [show (⟨g, j, none⟩ : Addr).add m = ⟨g, j + m, none⟩ from by unfold Addr.add; split <;> simp_all]
    exact (own_isBlk HO.out (j + m) u hu).1
  have SP : ∀ m, m < (xs.drop j).length → (w.drew.cell? ⟨g, 0 + i * 1 + m, none⟩).isSome = true ∧ w.drew.frozen? ⟨g, 0 + i * 1 + m, none⟩ = false := by
    intro m hm
    rw [List.length_drop] at hm
    have hm2 : i + m < xs.length := by omega
    obtain ⟨q1, q2, _, _⟩ := own_isBlk HO.out (i + m) _ (List.getElem?_eq_getElem hm2)
    rw [show 0 + i * 1 + m = i + m by omega]
    exact ⟨by rw [show w.drew.cell? ⟨g, i + m, none⟩ = w.cell? ⟨g, i + m, none⟩ from rfl, q1]; rfl, q2⟩
  have HL := Lib.hid (show (xs.drop j).length = (n - j) * 1 by simp; omega)
  have RD' := Lib.hid RD
  have SP' := Lib.hid SP
  have H1' := Lib.hid (show ∀ u ∈ xs.drop j, u.oneCell' = true from fun u hu => h1 u (List.mem_of_mem_drop hu))
  obtain ⟨ys, hys⟩ : ∃ ys, ys = xs.drop j := ⟨_, rfl⟩
  rw [← hys] at HL RD' SP' H1'
  have YS := Lib.hid hys
  have XL := Lib.hid hxl
  clear RD SP hys hxl h1
  by_cases hcj : cap = j
  · have RDn : ∀ m u, ys[m]? = some u → w.drew.cell? ((⟨g, 0, none⟩ : Addr).add m) = some u := fun m u hu => by
      have h0 : ys = [] := List.eq_nil_of_length_eq_zero (by have := HL.out; omega)
      rw [h0] at hu; cases hu
    go_region_law (refine step_append_room rfl _ _ _ rfl 9 i0 1 ht hi0 hsz g 0 i cap (by go_simp) ⟨g, 0, none⟩ (n - j) (cap - j) ys (by go_simp) HL.out RDn H1'.out (by omega) SP'.out ?_)
    all_goals (
      have tokC : True := trivial
      obtain ⟨q, hq⟩ : ∃ q, q = i + (n - j) := ⟨_, rfl⟩
      have HQN := Lib.hid (show q = n - 1 by have := HJ.out; omega)
      have hq1 : n - q = 1 := by have := HQN.out; omega
      have hq' : i + (n - j) = q := hq.symm
      have hq3 : (i : Int) + ((n - j : Nat) : Int) = (q : Int) := by omega
      have hq4 : q ≤ n := by have := HQN.out; omega
      have hq5 : q < cap := by have := HQN.out; omega
      have hq6 : ¬ cap = q := by omega
      clear hq
      obtain ⟨_, hbk⟩ := HO.out
      rcases hbk with ⟨hb0, _⟩ | ⟨g', cap', cur, hv, hBg, hh, _, _, hs, ht2⟩
      · cases hb0
      cases hv
      rw [Nat.mul_one] at hs ht2
      have hyl : ys.length = n - j := by have := HL.out; omega
      have X1 := Lib.hid (show isBlk (w.drew.setCells g i ys) g 9 (putsA cur i ys) from isBlk.puts ys i (isBlk.drew hh))
      have hqs : q < (putsA cur i ys).size := by rw [putsA_size]; have := HQN.out; omega
      have CR := Lib.run_clear_slice (P := Tryz.prog) (w.drew.setCells g i ys) 32 9 0 z ht hz3.out hzz hz2 g q 1 (cap - q) (by decide) (fun m hm => by
        obtain rfl : m = 0 := by omega
        rw [X1.out.at (q + 0) hqs]; rfl) (fun m _ => X1.out.frozen _)
      go_wp2_with (have _tc := tokC; refine clear_run _ rfl (.tmp 31) 32 rfl (.slice (some ⟨g, q, none⟩) 1 (cap - q)) (by go_simp; first | done | rw [hq1]) _ _ CR ?_; clear tokC _tc)
      go_ret
      have X2 := isBlk.puts (List.replicate 1 z) q X1.out
      have EP := erase_puts cur n i z hi (by omega)
      have on := ((Only.refl g w).drew.trans (Only.sets g ys i w.drew)).trans (Only.sets g (List.replicate 1 z) q _)
      have hy2 : ys = (cur.toList.take n).drop (i + 1) := by rw [YS.out, ht2, HJ.out]
      rw [← hy2, ht2, ← HQN.out] at EP
      refine ⟨by rw [HQN.out]; first | rfl | (rw [hcj]; rfl), ⟨by rw [List.length_eraseIdx, if_pos (by omega)]; omega, .inr ⟨g, cap, _, rfl, hBg, X2, by omega, by unfold maxLen; omega, by rw [putsA_size, putsA_size]; omega, ?_⟩⟩, on.below hBg (by have := isBlk.lt hh; omega), on⟩
      rw [Nat.mul_one, ← HQN.out]
      exact EP)
  · go_region_law (refine step_append_room rfl _ _ _ rfl 9 i0 1 ht hi0 hsz g 0 i cap (by go_simp) ⟨g, j, none⟩ (n - j) (cap - j) ys (by go_simp) HL.out RD'.out H1'.out (by omega) SP'.out ?_)
    all_goals (
      have tokC : True := trivial
      obtain ⟨q, hq⟩ : ∃ q, q = i + (n - j) := ⟨_, rfl⟩
      have HQN := Lib.hid (show q = n - 1 by have := HJ.out; omega)
      have hq1 : n - q = 1 := by have := HQN.out; omega
      have hq' : i + (n - j) = q := hq.symm
      have hq3 : (i : Int) + ((n - j : Nat) : Int) = (q : Int) := by omega
      have hq4 : q ≤ n := by have := HQN.out; omega
      have hq5 : q < cap := by have := HQN.out; omega
      have hq6 : ¬ cap = q := by omega
      clear hq
      obtain ⟨_, hbk⟩ := HO.out
      rcases hbk with ⟨hb0, _⟩ | ⟨g', cap', cur, hv, hBg, hh, _, _, hs, ht2⟩
      · cases hb0
      cases hv
      rw [Nat.mul_one] at hs ht2
      have hyl : ys.length = n - j := by have := HL.out; omega
      have X1 := Lib.hid (show isBlk (w.drew.setCells g i ys) g 9 (putsA cur i ys) from isBlk.puts ys i (isBlk.drew hh))
      have hqs : q < (putsA cur i ys).size := by rw [putsA_size]; have := HQN.out; omega
      have CR := Lib.run_clear_slice (P := Tryz.prog) (w.drew.setCells g i ys) 32 9 0 z ht hz3.out hzz hz2 g q 1 (cap - q) (by decide) (fun m hm => by
        obtain rfl : m = 0 := by omega
        rw [X1.out.at (q + 0) hqs]; rfl) (fun m _ => X1.out.frozen _)
      go_wp2_with (have _tc := tokC; refine clear_run _ rfl (.tmp 31) 32 rfl (.slice (some ⟨g, q, none⟩) 1 (cap - q)) (by go_simp; first | done | rw [hq1]) _ _ CR ?_; clear tokC _tc)
      go_ret
      have X2 := isBlk.puts (List.replicate 1 z) q X1.out
      have EP := erase_puts cur n i z hi (by omega)
      have on := ((Only.refl g w).drew.trans (Only.sets g ys i w.drew)).trans (Only.sets g (List.replicate 1 z) q _)
      have hy2 : ys = (cur.toList.take n).drop (i + 1) := by rw [YS.out, ht2, HJ.out]
      rw [← hy2, ht2, ← HQN.out] at EP
      refine ⟨by rw [HQN.out]; first | rfl | (rw [hcj]; rfl), ⟨by rw [List.length_eraseIdx, if_pos (by omega)]; omega, .inr ⟨g, cap, _, rfl, hBg, X2, by omega, by unfold maxLen; omega, by rw [putsA_size, putsA_size]; omega, ?_⟩⟩, on.below hBg (by have := isBlk.lt hh; omega), on⟩
      rw [Nat.mul_one, ← HQN.out]
      exact EP)
set_option maxRecDepth 100000 in
set_option maxHeartbeats 4000000 in
theorem delPtr_calls (B g n cap i : Nat) (xs : List Value) (w : World) (h : w.ownsRow B 123 1 (.slice (some ⟨g, 0, none⟩) n cap) n xs) (hi : i < n) (hn : n ≤ 10000000) (h1 : ∀ u ∈ xs, u.oneCell' = true) :
    Calls Tryz.prog 176 #[.slice (some ⟨g, 0, none⟩) n cap, .int .i64 i, .int .i64 ((i + 1 : Nat) : Int)] w fun e w' => e = .returned (.slice (some ⟨g, 0, none⟩) (n - 1) cap) ∧ w'.ownsRow B 123 1 (.slice (some ⟨g, 0, none⟩) (n - 1) cap) (n - 1) (xs.eraseIdx i) ∧ Below B w w' ∧ Only g w w' := by
  obtain ⟨hnc, hcm⟩ := own_cap h
  have hxl : xs.length = n := by have := own_len h; omega
  obtain ⟨j, hj⟩ : ∃ j, j = i + 1 := ⟨_, rfl⟩
  rw [← hj]
  have HJ := Lib.hid hj
  have b1 : (i : Int) ≤ (j : Int) := by omega
  have b2 : (j : Int) ≤ (n : Int) := by omega
  have b3 : (n : Int) ≤ (cap : Int) := by omega
  have b4 : (i : Int) ≤ (n : Int) := by omega
  have b5 : (i : Int) ≠ (j : Int) := by omega
  have b6 : (i : Int) ≤ (cap : Int) := by omega
  have c1 : i ≤ j := by omega
  have c2 : j ≤ n := by omega
  have c3 : i ≤ n := by omega
  have c4 : i ≤ cap := by omega
  have c5 : i ≠ j := by omega
  have HO := Lib.hid h
  clear hj h
  go_enter Tryz.func176, Tryz.ntmps176
  go_wp2_with fail
  obtain ⟨ht, _, _, i0, z, hi0, hz, hsz, hby, hzs⟩ := appPtr
  have hz1 : z = .pointer none := by
    have h0 : (Tryz.prog.info? 123).map (fun i => i.zero) = some (some (.pointer none)) := by kernel_rfl
    rw [hi0] at h0
    simp only [Option.map_some, Option.some.injEq] at h0
    rw [hz] at h0
    exact Option.some.inj h0
  have hzz : z.cells = #[z] := by rw [hz1]; rfl
  have hz2 : z.oneCell' = true := by rw [hz1]; rfl
  have hz3 := Lib.hid (show ∀ W, (zeroValue 123).run Tryz.prog W = .ok z W from fun W => by simp [zeroValue, typeInfo, hi0, hz])
  clear hz1
  have RD : ∀ m u, (xs.drop j)[m]? = some u → w.drew.cell? ((⟨g, j, none⟩ : Addr).add m) = some u := by
    intro m u hu
    rw [List.getElem?_drop] at hu
    rw [show (⟨g, j, none⟩ : Addr).add m = ⟨g, j + m, none⟩ from by unfold Addr.add; split <;> simp_all]
    exact (own_isBlk HO.out (j + m) u hu).1
  have SP : ∀ m, m < (xs.drop j).length → (w.drew.cell? ⟨g, 0 + i * 1 + m, none⟩).isSome = true ∧ w.drew.frozen? ⟨g, 0 + i * 1 + m, none⟩ = false := by
    intro m hm
    rw [List.length_drop] at hm
    have hm2 : i + m < xs.length := by omega
    obtain ⟨q1, q2, _, _⟩ := own_isBlk HO.out (i + m) _ (List.getElem?_eq_getElem hm2)
    rw [show 0 + i * 1 + m = i + m by omega]
    exact ⟨by rw [show w.drew.cell? ⟨g, i + m, none⟩ = w.cell? ⟨g, i + m, none⟩ from rfl, q1]; rfl, q2⟩
  have HL := Lib.hid (show (xs.drop j).length = (n - j) * 1 by simp; omega)
  have RD' := Lib.hid RD
  have SP' := Lib.hid SP
  have H1' := Lib.hid (show ∀ u ∈ xs.drop j, u.oneCell' = true from fun u hu => h1 u (List.mem_of_mem_drop hu))
  obtain ⟨ys, hys⟩ : ∃ ys, ys = xs.drop j := ⟨_, rfl⟩
  rw [← hys] at HL RD' SP' H1'
  have YS := Lib.hid hys
  have XL := Lib.hid hxl
  clear RD SP hys hxl h1
  by_cases hcj : cap = j
  · have RDn : ∀ m u, ys[m]? = some u → w.drew.cell? ((⟨g, 0, none⟩ : Addr).add m) = some u := fun m u hu => by
      have h0 : ys = [] := List.eq_nil_of_length_eq_zero (by have := HL.out; omega)
      rw [h0] at hu; cases hu
    go_region_law (refine step_append_room rfl _ _ _ rfl 123 i0 1 ht hi0 hsz g 0 i cap (by go_simp) ⟨g, 0, none⟩ (n - j) (cap - j) ys (by go_simp) HL.out RDn H1'.out (by omega) SP'.out ?_)
    all_goals (
      have tokC : True := trivial
      obtain ⟨q, hq⟩ : ∃ q, q = i + (n - j) := ⟨_, rfl⟩
      have HQN := Lib.hid (show q = n - 1 by have := HJ.out; omega)
      have hq1 : n - q = 1 := by have := HQN.out; omega
      have hq' : i + (n - j) = q := hq.symm
      have hq3 : (i : Int) + ((n - j : Nat) : Int) = (q : Int) := by omega
      have hq4 : q ≤ n := by have := HQN.out; omega
      have hq5 : q < cap := by have := HQN.out; omega
      have hq6 : ¬ cap = q := by omega
      clear hq
      obtain ⟨_, hbk⟩ := HO.out
      rcases hbk with ⟨hb0, _⟩ | ⟨g', cap', cur, hv, hBg, hh, _, _, hs, ht2⟩
      · cases hb0
      cases hv
      rw [Nat.mul_one] at hs ht2
      have hyl : ys.length = n - j := by have := HL.out; omega
      have X1 := Lib.hid (show isBlk (w.drew.setCells g i ys) g 123 (putsA cur i ys) from isBlk.puts ys i (isBlk.drew hh))
      have hqs : q < (putsA cur i ys).size := by rw [putsA_size]; have := HQN.out; omega
      have CR := Lib.run_clear_slice (P := Tryz.prog) (w.drew.setCells g i ys) 120 123 0 z ht hz3.out hzz hz2 g q 1 (cap - q) (by decide) (fun m hm => by
        obtain rfl : m = 0 := by omega
        rw [X1.out.at (q + 0) hqs]; rfl) (fun m _ => X1.out.frozen _)
      go_wp2_with (have _tc := tokC; refine clear_run _ rfl (.tmp 31) 120 rfl (.slice (some ⟨g, q, none⟩) 1 (cap - q)) (by go_simp; first | done | rw [hq1]) _ _ CR ?_; clear tokC _tc)
      go_ret
      have X2 := isBlk.puts (List.replicate 1 z) q X1.out
      have EP := erase_puts cur n i z hi (by omega)
      have on := ((Only.refl g w).drew.trans (Only.sets g ys i w.drew)).trans (Only.sets g (List.replicate 1 z) q _)
      have hy2 : ys = (cur.toList.take n).drop (i + 1) := by rw [YS.out, ht2, HJ.out]
      rw [← hy2, ht2, ← HQN.out] at EP
      refine ⟨by rw [HQN.out]; first | rfl | (rw [hcj]; rfl), ⟨by rw [List.length_eraseIdx, if_pos (by omega)]; omega, .inr ⟨g, cap, _, rfl, hBg, X2, by omega, by unfold maxLen; omega, by rw [putsA_size, putsA_size]; omega, ?_⟩⟩, on.below hBg (by have := isBlk.lt hh; omega), on⟩
      rw [Nat.mul_one, ← HQN.out]
      exact EP)
  · go_region_law (refine step_append_room rfl _ _ _ rfl 123 i0 1 ht hi0 hsz g 0 i cap (by go_simp) ⟨g, j, none⟩ (n - j) (cap - j) ys (by go_simp) HL.out RD'.out H1'.out (by omega) SP'.out ?_)
    all_goals (
      have tokC : True := trivial
      obtain ⟨q, hq⟩ : ∃ q, q = i + (n - j) := ⟨_, rfl⟩
      have HQN := Lib.hid (show q = n - 1 by have := HJ.out; omega)
      have hq1 : n - q = 1 := by have := HQN.out; omega
      have hq' : i + (n - j) = q := hq.symm
      have hq3 : (i : Int) + ((n - j : Nat) : Int) = (q : Int) := by omega
      have hq4 : q ≤ n := by have := HQN.out; omega
      have hq5 : q < cap := by have := HQN.out; omega
      have hq6 : ¬ cap = q := by omega
      clear hq
      obtain ⟨_, hbk⟩ := HO.out
      rcases hbk with ⟨hb0, _⟩ | ⟨g', cap', cur, hv, hBg, hh, _, _, hs, ht2⟩
      · cases hb0
      cases hv
      rw [Nat.mul_one] at hs ht2
      have hyl : ys.length = n - j := by have := HL.out; omega
      have X1 := Lib.hid (show isBlk (w.drew.setCells g i ys) g 123 (putsA cur i ys) from isBlk.puts ys i (isBlk.drew hh))
      have hqs : q < (putsA cur i ys).size := by rw [putsA_size]; have := HQN.out; omega
      have CR := Lib.run_clear_slice (P := Tryz.prog) (w.drew.setCells g i ys) 120 123 0 z ht hz3.out hzz hz2 g q 1 (cap - q) (by decide) (fun m hm => by
        obtain rfl : m = 0 := by omega
        rw [X1.out.at (q + 0) hqs]; rfl) (fun m _ => X1.out.frozen _)
      go_wp2_with (have _tc := tokC; refine clear_run _ rfl (.tmp 31) 120 rfl (.slice (some ⟨g, q, none⟩) 1 (cap - q)) (by go_simp; first | done | rw [hq1]) _ _ CR ?_; clear tokC _tc)
      go_ret
      have X2 := isBlk.puts (List.replicate 1 z) q X1.out
      have EP := erase_puts cur n i z hi (by omega)
      have on := ((Only.refl g w).drew.trans (Only.sets g ys i w.drew)).trans (Only.sets g (List.replicate 1 z) q _)
      have hy2 : ys = (cur.toList.take n).drop (i + 1) := by rw [YS.out, ht2, HJ.out]
      rw [← hy2, ht2, ← HQN.out] at EP
      refine ⟨by rw [HQN.out]; first | rfl | (rw [hcj]; rfl), ⟨by rw [List.length_eraseIdx, if_pos (by omega)]; omega, .inr ⟨g, cap, _, rfl, hBg, X2, by omega, by unfold maxLen; omega, by rw [putsA_size, putsA_size]; omega, ?_⟩⟩, on.below hBg (by have := isBlk.lt hh; omega), on⟩
      rw [Nat.mul_one, ← HQN.out]
      exact EP)
end Go.Proofs.YtmlfnidckfeebaaGreatDoor
namespace Go.Proofs.YtmlfnidckfeebaaGreatDoor
open Go.RowKit Go.Shelf
theorem setRow_isBlk {w : World} {g : Nat} {t : TypeId} {cs cs' : Array Value} (h : isBlk w g t cs) : isBlk (w.setRow g cs') g t cs' := setRow_heap w g cs cs' t (0, 0) h
section
variable {P : Program} {ops : Array Oper} {rest : List Oper} {o : Oper} {a : Act} {Q : Exit → Act → World → Prop} {w : World}
/-- One with a place more: what stands there is not told. -/
theorem own_more {w : World} {B g n cap : Nat} {e : TypeId} {xs : List Value} (h : w.ownsRow B e 1 (.slice (some ⟨g, 0, none⟩) n cap) n xs) (hc : n < cap) :
    ∃ y, w.ownsRow B e 1 (.slice (some ⟨g, 0, none⟩) (n + 1) cap) (n + 1) (xs ++ [y]) := by
  obtain ⟨hl, h⟩ := h
  rcases h with ⟨h, _⟩ | ⟨g', cap', cur, hv, hb, hh, hn, hm, hs, ht⟩
  · cases h
  · cases hv
    rw [Nat.mul_one] at hl hs ht
    have hy : n < cur.toList.length := by simp; omega
    refine ⟨cur.toList[n], by simp [hl], .inr ⟨g, cap, cur, rfl, hb, hh, by omega, hm, by omega, ?_⟩⟩
    rw [Nat.mul_one, ← ht, List.take_succ_eq_append_getElem hy]
/-- The first so many. -/
theorem own_less {w : World} {B g n cap : Nat} {e : TypeId} {xs : List Value} (h : w.ownsRow B e 1 (.slice (some ⟨g, 0, none⟩) n cap) n xs) (i : Nat) (hi : i ≤ n) :
    w.ownsRow B e 1 (.slice (some ⟨g, 0, none⟩) i cap) i (xs.take i) := by
  obtain ⟨hl, h⟩ := h
  rcases h with ⟨h, _⟩ | ⟨g', cap', cur, hv, hb, hh, hn, hm, hs, ht⟩
  · cases h
  · cases hv
    rw [Nat.mul_one] at hl hs ht
    refine ⟨by simp; omega, .inr ⟨g, cap, cur, rfl, hb, hh, by omega, hm, by omega, ?_⟩⟩
    rw [Nat.mul_one, ← ht, List.take_take, Nat.min_eq_left hi]
theorem copy_own (hgd : o.guard = none) (d x : Operand) {t u e : TypeId} (ho : o.op = .call { callee := .builtin .copy, args := #[d, x], argTypes := #[t, u] }) (ht : P.underlying t = some (.slice e)) (hi : (P.info? e).map (·.size) = some 1)
    (B g n cap : Nat) (xs : List Value) (hown : w.ownsRow B e 1 (.slice (some ⟨g, 0, none⟩) n cap) n xs) (k dl dc : Nat) (hd : a.eval d = .slice (some ⟨g, k, none⟩) dl dc) (hk : k + dl = n)
    (X : Addr) (sl sc : Nat) (hx : a.eval x = .slice (some X) sl sc) (cs : List Value) (hcl : cs.length = Nat.min sl dl) (hsrc : ∀ j v, cs[j]? = some v → w.cell? (X.add j) = some v) (h1 : ∀ v ∈ cs, v.oneCell' = true)
    (h : ∀ w', w'.ownsRow B e 1 (.slice (some ⟨g, 0, none⟩) n cap) n (xs.take k ++ cs ++ xs.drop (k + cs.length)) → Only g w w' → Below B w w' → wpList P ops Q rest (a.put o.dst (.int .i64 cs.length)) w') : wpList P ops Q (o :: rest) a w := by
  have hcd : cs.length ≤ dl := by rw [hcl]; exact Nat.min_le_right _ _
  obtain ⟨hl, hb⟩ := hown
  rcases hb with ⟨hb, _⟩ | ⟨g', cap', cur, hv, hb, hh, hn, hm, hs, ht2⟩
  · cases hb
  cases hv
  rw [Nat.mul_one] at hl hs ht2
  have hrun := run_copy_row P w t u o.type e g k dl dc X sl sc cur e cs ht hi hh hcl hsrc (by omega) h1
  refine wpList_plain hgd fun K hK => ?_
  unfold Oper.wp execOp
  simp only [ho, resolve, invoke, builtin, Sem.run_bind, Sem.run_pure, Result.andThen_ok, List.map_toArray, List.map_cons, List.map_nil, hd, hx, hrun]
  have X2 : isBlk (w.setRow g (cur.toList.take k ++ cs ++ cur.toList.drop (k + cs.length)).toArray) g e _ := setRow_isBlk hh
  refine hK _ _ (h _ ⟨?_, .inr ⟨g, cap, _, rfl, hb, X2, hn, hm, ?_, ?_⟩⟩ (Only.setRow g _ w) ((Only.setRow g _ w).below hb (by have := isBlk.lt hh; omega)))
  · simp; omega
  · simp; omega
  · rw [Nat.mul_one]
    apply List.ext_getElem?
    intro m
    have hxm : ∀ j, xs[j]? = if j < n then cur.toList[j]? else none := fun j => by rw [← ht2, List.getElem?_take]
    simp only [List.getElem?_take, List.getElem?_append, List.getElem?_drop, hxm, List.length_append, List.length_take, Array.length_toList]
    rw [show min k cur.size = k by omega, show min k xs.length = k by omega]
    by_cases m1 : m < k
    · have m2 : m < k + cs.length := by omega
      have m3 : m < n := by omega
      simp only [m1, m2, m3, if_true]
    · by_cases m2 : m < k + cs.length
      · have m3 : m < n := by omega
        simp only [m1, m2, m3, if_true, if_false]
      · have e : k + cs.length + (m - (k + cs.length)) = m := by omega
        simp only [m2, if_false, e]
/-- A make of so many makes one that has no room for it a new one. -/
theorem app_grow {t tn e : TypeId} {bytes : Nat} (hst : AppStat P t e 1 bytes) (htn : P.underlying tn = some (.int .i64)) (hgd : o.guard = none) (s x : Operand) (ho : o.op = .call { callee := .builtin .append, args := #[s, x], argTypes := #[t, tn] })
    (B g n cap : Nat) (xs : List Value) (hown : w.ownsRow B e 1 (.slice (some ⟨g, 0, none⟩) n cap) n xs) (k m : Nat) (hm : n + k = m) (hk : 0 < k) (hs : a.eval s = .slice (some ⟨g, 0, none⟩) n cap) (hx : a.eval x = .int .i64 k) (hg : cap < m) (hcap : m * bytes ≤ 140737488355328)
    (h : ∀ g' cap' zs w', w.heap.size ≤ g' → zs.length = k → w'.ownsRow w.heap.size e 1 (.slice (some ⟨g', 0, none⟩) m cap') m (xs ++ zs) → Ext w w' → wpList P ops Q rest (a.put o.dst (.slice (some ⟨g', 0, none⟩) m cap')) w') : wpList P ops Q (o :: rest) a w := by
  subst hm
  obtain ⟨ht, hz0, hb0, i, z, hi, hz, hsz, hby, hzs⟩ := hst
  have hnb : (n + k) ≤ (n + k) * bytes := Nat.le_mul_of_pos_right _ hb0
  have h63 : ((n + k : Nat) : Int) ≤ 9223372036854775807 := by omega
  have hxl := own_len hown
  rw [Nat.mul_one] at hxl
  have hold : (Builtin.firstCells i.size n (.slice (some ⟨g, 0, none⟩) n cap)).run P w.drew = .ok xs.toArray w.drew := by
    have hl := run_loadCells_list (P := P) w.drew ⟨g, 0, none⟩ xs fun m u hu => by
      rw [show (⟨g, 0, none⟩ : Addr).add m = ⟨g, m, none⟩ from by unfold Addr.add; split <;> simp_all]
      exact (own_isBlk hown m u hu).1
    rw [hxl] at hl
    rw [hsz]
    simpa [Builtin.firstCells] using hl
  have hkb : k * bytes ≤ (n + k) * bytes := Nat.mul_le_mul_right _ (by omega)
  have hnx : Builtin.nextslicecap (n + k) cap * i.bytes ≤ 281474976710656 := by
    rw [hby]
    exact growslice_fits hg hcap
  have run := Lib.run_append_grow_zeros (P := P) w t tn o.type e i z .i64 .i64 ht htn hi hz (some ⟨g, 0, none⟩) n cap xs hold k hk (by omega) hg h63 (by rw [hby]; omega) hnx
  refine Lib.wpList_append_run w hgd s x t tn ho _ _ hs hx _ _ run ?_
  have hg1 : n + k ≤ grownCap w (n + k) cap e := grownCap_ge w _ _ _
  have hg2 := grownCap_le_maxLen w (n + k) cap e (by unfold maxLen; omega)
  have hzc : ∀ k, (Builtin.zeroCells z.cells k).size = k := fun k => by simp [Builtin.zeroCells, hzs]
  have hzc2 : ∀ k, (Builtin.zeroCells z.cells k).toList.length = k := fun k => by rw [Array.length_toList, hzc]
  refine h w.heap.size _ (Builtin.zeroCells z.cells k).toList _ (Nat.le_refl _) (hzc2 k) ⟨by simp [hxl, hzc], .inr ⟨w.heap.size, _, _, rfl, Nat.le_refl _, heap_alloc_new w.drew _, hg1, hg2, ?_, ?_⟩⟩ ((Below.refl _ _).drew.alloc (Nat.le_refl _) _)
  · simp only [Array.size_append, hzc]
    simp [hxl]
    omega
  · rw [Nat.mul_one, Array.toList_append, Array.toList_append, List.take_append_of_le_length (by simp [hxl, hzc]), List.take_of_length_le (by simp [hxl, hzc])]
/-- For an arm of the walk's: this operation is a copy. -/
theorem at_cpy {xs : Array Operand} {ts : Array TypeId} (_ho : o.op = .call { callee := .builtin .copy, args := xs, argTypes := ts }) (h : wpList P ops Q (o :: rest) a w) : wpList P ops Q (o :: rest) a w := h
end
theorem isBlk.read {w : World} {g : Nat} {t : TypeId} {cs : Array Value} (h : isBlk w g t cs) (j : Nat) (v : Value) (hj : cs.toList[j]? = some v) : w.cell? ((⟨g, 0, none⟩ : Addr).add j) = some v := by
  rw [show (⟨g, 0, none⟩ : Addr).add j = ⟨g, j, none⟩ from by unfold Addr.add; split <;> simp_all, h.cell j]
  simpa using hj
theorem isBlk.one {w : World} {g : Nat} {t : TypeId} {u : Value} (h : isBlk w g t #[u]) : Cells w (some ⟨g, 0, none⟩) [u] := fun _ => ⟨g, 0, rfl, fun j v hj => by rw [Nat.zero_add, h.cell j]; simpa using hj⟩
theorem own_lower {w : World} {B B' n : Nat} {e : TypeId} {size : Nat} {v : Value} {xs : List Value} (h : w.ownsRow B e size v n xs) (hB : B' ≤ B) : w.ownsRow B' e size v n xs := by
  refine ⟨h.1, ?_⟩
  rcases h.2 with h | ⟨g, cap, cur, h1, h2, h3⟩
  · exact .inl h
  · exact .inr ⟨g, cap, cur, h1, Nat.le_trans hB h2, h3⟩
theorem below_lower {w w' : World} {B B' : Nat} (h : Below B w w') (hB : B' ≤ B) : Below B' w w' := ⟨h.os, h.tape, h.output, h.size, fun k hk => h.block k (Nat.lt_of_lt_of_le hk hB)⟩
theorem ins_grow (xs zs : List Value) (u : Value) (i : Nat) (hi : i ≤ xs.length) (hz : zs.length = xs.length + 1 - i) :
    (List.take (i + 1) ((xs.take i ++ zs).take i ++ [u] ++ (xs.take i ++ zs).drop (i + [u].length)) ++ xs.drop i ++ List.drop (i + 1 + (xs.drop i).length) ((xs.take i ++ zs).take i ++ [u] ++ (xs.take i ++ zs).drop (i + [u].length))) = xs.take i ++ u :: xs.drop i := by
  have hl : (xs.take i).length = i := by simp; omega
  have e1 : (xs.take i ++ zs).take i = xs.take i := by rw [List.take_append_of_le_length (by omega), List.take_of_length_le (by omega)]
  have e2 : ((xs.take i ++ [u]) : List Value).length = i + 1 := by simp; omega
  have e3 : List.drop (i + 1 + (xs.drop i).length) (xs.take i ++ [u] ++ (xs.take i ++ zs).drop (i + [u].length)) = [] := List.drop_eq_nil_of_le (by simp; omega)
  rw [e1, e3, List.append_nil, List.take_append_of_le_length (by omega), List.take_of_length_le (by omega), List.append_assoc]
  rfl
theorem ins_room (xs : List Value) (y u : Value) (i : Nat) (hi : i ≤ xs.length) :
    (List.take i (List.take (i + 1) (xs ++ [y]) ++ xs.drop i ++ List.drop (i + 1 + (xs.drop i).length) (xs ++ [y])) ++ [u] ++ List.drop (i + [u].length) (List.take (i + 1) (xs ++ [y]) ++ xs.drop i ++ List.drop (i + 1 + (xs.drop i).length) (xs ++ [y]))) = xs.take i ++ u :: xs.drop i := by
  have e0 : List.drop (i + 1 + (xs.drop i).length) (xs ++ [y]) = [] := List.drop_eq_nil_of_le (by simp; omega)
  have e1 : ((xs ++ [y]).take (i + 1)).length = i + 1 := by simp; omega
  have e2 : ((xs ++ [y]).take (i + 1)).take i = xs.take i := by rw [List.take_take, Nat.min_eq_left (by omega), List.take_append_of_le_length hi]
  rw [e0, List.append_nil, List.take_append_of_le_length (by omega), e2, List.append_assoc]
  congr 1
  rw [show i + [u].length = ((xs ++ [y]).take (i + 1)).length by rw [e1]; rfl, List.drop_left]
  rfl
end Go.Proofs.YtmlfnidckfeebaaGreatDoor
namespace Go.Proofs.YtmlfnidckfeebaaGreatDoor
open Go.RowKit
section
variable {P : Program} {md : Region.Mode} {ops : Array Oper} {S T : World → Prop}
/-- What an operation that only reads comes to, in every world of the kind T. -/
def YieldsT (P : Program) (ops : Array Oper) (T : World → Prop) (o : Oper) (v : Value) (a : Act) : Prop :=
  (Region.wanted o (yielded ops a.tmps) = true ∧ ∀ w, T w → (execOp a.eval o).run P w = .ok (.value v) w) ∨ (Region.wanted o (yielded ops a.tmps) = false ∧ v = undef)
theorem YieldsT.of_same {o : Oper} {v : Value} {a a' : Act} (hy : YieldsT P ops T o v a) (he : execOp a'.eval o = execOp a.eval o)
    (hw : Region.wanted o (yielded ops a'.tmps) = Region.wanted o (yielded ops a.tmps)) : YieldsT P ops T o v a' := by
  unfold YieldsT at *
  rw [he, hw]
  exact hy
theorem YieldsT.wpOp {Q : Exit → Act → World → Prop} {i : Nat} {o : Oper} {v : Value} {a : Act} (hi : ops[i]? = some o) (hy : YieldsT P ops T o v a) {K : Act → World → Prop} {w : World} (hT : T w) (h : K (a.put o.dst v) w) : wpOp P ops Q i K a w := by
  unfold Go.wpOp
  simp only [hi]
  rcases hy with ⟨hw, hv⟩ | ⟨hw, rfl⟩
  · simp only [hw, if_true, Oper.wp, hv w hT, Oper.upon]; exact .inl h
  · simp only [hw, Bool.false_eq_true, if_false]; exact h
theorem wpOp_putT {Q : Exit → Act → World → Prop} {j : Nat} {oi oj : Oper} {v : Value} (hj : ops[j]? = some oj) (hap : oi.apart ops oj = true)
    (hsi : ∀ cs b, oi.op ≠ .select cs b) (hsj : ∀ cs b, oj.op ≠ .select cs b)
    (hQ : ∀ c a w, ¬ Q (.panic c) a w) {K : Act → World → Prop} {a : Act} {w : World}
    (hy : YieldsT P ops T oi v a) (h : wpOp P ops Q j K (a.put oi.dst v) w) :
    wpOp P ops Q j (fun a' w' => YieldsT P ops T oi v a' ∧ K (a'.put oi.dst v) w') a w := by
  obtain ⟨h1, h2, h3⟩ := Oper.apart_spec hap
  have keep : ∀ (a : Act), YieldsT P ops T oi v a → ∀ u, YieldsT P ops T oi v (a.put oj.dst u) := fun a hy u =>
    hy.of_same (execOp_put oi hsi a oj.dst u h3) (wanted_put oi a oj.dst u h3)
  have keepD : ∀ d, YieldsT P ops T oi v { a with defers := d :: a.defers } := fun d => hy.of_same rfl rfl
  have ev := execOp_put oj hsj a oi.dst v h1
  have wv := wanted_put oj a oi.dst v h1
  unfold wpOp at h ⊢
  simp only [hj, wv] at h ⊢
  by_cases hw : Region.wanted oj (yielded ops a.tmps) = true
  · rw [if_pos hw] at h ⊢
    rcases h with h | ⟨hasks, hlets⟩
    · left
      unfold Oper.wp at h ⊢
      rw [ev] at h
      generalize (execOp a.eval oj).run P w = r at h ⊢
      cases r with
      | ok n w' =>
        cases n with
        | value u => exact ⟨keep a hy u, by rw [← Act.put_comm a v u h2]; exact h⟩
        | skip => exact ⟨keep a hy _, by rw [← Act.put_comm a v undef h2]; exact h⟩
        | defer d =>
          refine ⟨keep _ (keepD d) _, ?_⟩
          rw [← Act.put_comm _ v undef h2, ← Act.put_defers]
          exact h
        | enter f args =>
          refine Calls.mono h fun e w'' he => ?_
          cases e with
          | returned u => exact ⟨keep a hy u, by rw [← Act.put_comm a v u h2]; exact he⟩
          | panicked c => exact absurd he (hQ _ _ _)
          | outgrown => exact he
        | row row args => exact Rows.mono h fun u w'' he => ⟨keep a hy u, by rw [← Act.put_comm a v u h2]; exact he⟩
        | _ => exact h
      | halt x w' =>
        cases x with
        | panic u => exact absurd h (hQ _ _ _)
        | _ => exact h
    · exact .inr ⟨by unfold Oper.asks at *; rw [ev] at hasks; exact hasks, hlets⟩
  · rw [if_neg hw] at h ⊢
    exact ⟨keep a hy _, by rw [← Act.put_comm a v undef h2]; exact h⟩
/-- All orders; behind each operation ahead of the m-th the world is of the kind T. -/
def wpAnyT (P : Program) (md : Region.Mode) (ops : Array Oper) (T : World → Prop) (m : Nat) (Q : Exit → Act → World → Prop) : Nat → Array Bool → Act → World → Prop
  | 0, listed, a, w => Region.ready md ops listed = [] ∧ Q .normal a w
  | fuel + 1, listed, a, w => (Region.ready md ops listed = [] → Q .normal a w) ∧
    ∀ i ∈ Region.ready md ops listed, wpOp P ops Q i (fun a' w' => (i < m → T w') ∧ wpAnyT P md ops T m Q fuel (listed.setIfInBounds i true) a' w') a w
theorem wpAny_of_T {m : Nat} {Q : Exit → Act → World → Prop} : ∀ (f : Nat) (listed : Array Bool) (a : Act) (w : World), wpAnyT P md ops T m Q f listed a w → wpAny P md ops Q f listed a w
  | 0, _, _, _, h => h
  | f + 1, _, _, _, h => ⟨h.1, fun i hi => wpOp_mono (fun a' w' hh => wpAny_of_T f _ a' w' hh.2) (h.2 i hi)⟩
theorem wpAnyT_first {m : Nat} {Q : Exit → Act → World → Prop} {i : Nat} {oi : Oper} {v : Value} (hi : ops[i]? = some oi) (hsel : ∀ (j : Nat) (o : Oper) cs b, ops[j]? = some o → o.op ≠ .select cs b)
    (hQ : ∀ c a w, ¬ Q (.panic c) a w) {I : Array Bool → Prop} (hI : ∀ listed j, I listed → j ∈ Region.ready md ops listed → j < m → I (listed.setIfInBounds j true))
    (hwm : ∀ listed, I listed → listed.getD i true = false → ∀ t, m ≤ t → t ∉ Region.ready md ops listed) :
    ∀ (fuel : Nat) (listed : Array Bool) (a : Act) (w : World), T w → I listed →
      (∀ j oj, ops[j]? = some oj → j ≠ i → listed.getD j true = false → (∀ e ∈ oj.after, Region.binds md e = true → e.on ≠ i) → oi.apart ops oj = true) →
      i ∈ Region.ready md ops listed → YieldsT P ops T oi v a →
      wpAnyT P md ops T m Q fuel (listed.setIfInBounds i true) (a.put oi.dst v) w → wpAnyT P md ops T m Q (fuel + 1) listed a w := by
  intro fuel
  induction fuel with
  | zero =>
    intro listed a w hT inv _ hr hy H
    refine ⟨fun h => (by rw [h] at hr; cases hr), fun j hj => ?_⟩
    by_cases hji : j = i
    · subst hji; exact hy.wpOp hi hT ⟨fun _ => hT, H⟩
    · have := ready_mono hj hji
      rw [H.1] at this
      cases this
  | succ fuel ih =>
    intro listed a w hT inv hfree hr hy H
    refine ⟨fun h => (by rw [h] at hr; cases hr), fun j hj => ?_⟩
    by_cases hji : j = i
    · subst hji; exact hy.wpOp hi hT ⟨fun _ => hT, H⟩
    · have h1 := H.2 j (ready_mono hj hji)
      have hun := (mem_ready.1 hr).1
      have hjm : j < m := by
        rcases Nat.lt_or_ge j m with h | h
        · exact h
        · exact absurd hj (hwm _ inv hun j h)
      obtain ⟨hjun, oj, hoj, hall⟩ := mem_ready.1 hj
      have hnot : ∀ e ∈ oj.after, Region.binds md e = true → e.on ≠ i := fun e he hb heq => by
        have h1 := hall e he hb
        rw [heq, getD_both hun] at h1
        cases h1
      have h2 := wpOp_putT hoj (hfree j oj hoj hji hjun hnot) (fun cs b => hsel i oi cs b hi) (fun cs b => hsel j oj cs b hoj) hQ hy h1
      have hfree' : ∀ k ok, ops[k]? = some ok → k ≠ i → (listed.setIfInBounds j true).getD k true = false →
          (∀ e ∈ ok.after, Region.binds md e = true → e.on ≠ i) → oi.apart ops ok = true := fun k ok hk hki hun hno => by
        refine hfree k ok hk hki ?_ hno
        by_cases hjk : j = k
        · subst hjk; exact hjun
        · rw [getD_set_ne true hjk] at hun; exact hun
      refine wpOp_mono (fun a' w' h3 => ⟨h3.2.1, ih (listed.setIfInBounds j true) a' w' (h3.2.1 hjm) (hI _ _ inv hj hjm) hfree' (ready_mono hr (Ne.symm hji)) h3.1 ?_⟩) h2
      rw [Array.setIfInBounds_comm _ _ hji]
      exact h3.2.2
theorem wpAnyT_of_seq {m : Nat} {Q : Exit → Act → World → Prop} : ∀ (l : List Oper) (k : Nat) (listed : Array Bool) (a : Act) (w : World), m ≤ k → (∀ j, l[j]? = ops[k + j]?) →
    Region.seqB md ops l.length k listed = true → wpList P ops Q l a w → wpAnyT P md ops T m Q l.length listed a w
  | [], _, _, _, _, _, _, hB, h => ⟨by simpa [Region.seqB] using hB, h⟩
  | o :: l, k, listed, a, w, hm, hl, hB, h => by
    have h0 : ops[k]? = some o := by simpa using (hl 0).symm
    simp only [List.length_cons, Region.seqB, Bool.and_eq_true, decide_eq_true_eq] at hB
    refine ⟨fun h1 => (by rw [hB.1] at h1; cases h1), fun i hi => ?_⟩
    rw [hB.1] at hi
    obtain rfl : i = k := by simpa using hi
    have hw : wpOp P ops Q i (wpList P ops Q l) a w := by unfold wpOp; simp only [h0]; exact h
    exact wpOp_mono (fun a' w' h' => ⟨fun hh => by omega, wpAnyT_of_seq l (i + 1) _ a' w' (by omega) (fun j => by have := hl (j + 1); simpa [Nat.add_assoc, Nat.add_comm 1 j] using this) hB.2 h'⟩) hw
theorem wpAnyT_of_headD {n g m : Nat} (hST : ∀ w, S w → T w) {L : Array Bool → Act → Prop} {Q' : Exit → Act → World → Prop} (hL : ∀ listed a w, L listed a → S w → wpAnyT P md ops T m Q' g listed a w) :
    ∀ (f : Nat) (listed : Array Bool) (a : Act) (w : World), S w → wpAnyLD P md ops S n L f listed a → wpAnyT P md ops T m Q' (f + g) listed a w
  | 0, listed, a, w, hS, h => by rw [Nat.zero_add]; exact hL _ _ _ h hS
  | f + 1, listed, a, w, hS, h => by
    rw [show f + 1 + g = (f + g) + 1 by omega]
    exact ⟨fun h0 => absurd h0 h.1, fun i hi => wpOp_of_dOp hS (fun a' w' h' hS' => ⟨fun _ => hST _ hS', wpAnyT_of_headD hST hL f _ a' w' hS' h'⟩) (h.2 i hi).2⟩
/-- Operations that tell one value in every world of a kind: they may come late. -/
def wpFloatT (P : Program) (ops : Array Oper) (T : World → Prop) (Q : Act → Prop) : List Oper → Act → Prop
  | [], a => Q a
  | o :: rest, a => ∃ v, YieldsT P ops T o v a ∧ wpFloatT P ops T Q rest (a.put o.dst v)
theorem floatT_nil {Q : Act → Prop} {a : Act} (h : Q a) : wpFloatT P ops T Q [] a := h
theorem floatT_step {Q : Act → Prop} {a : Act} {o : Oper} {rest : List Oper} (h : ∀ K : Act → Prop, (∀ a, wpFloatT P ops T Q rest a → K a) → ∃ v, YieldsT P ops T o v a ∧ K (a.put o.dst v)) : wpFloatT P ops T Q (o :: rest) a :=
  h _ fun _ h => h
theorem floatT_mono {Q Q' : Act → Prop} (h : ∀ a, Q a → Q' a) : ∀ (l : List Oper) (a : Act), wpFloatT P ops T Q l a → wpFloatT P ops T Q' l a
  | [], a, hh => h a hh
  | _ :: l, _, ⟨v, hy, hK⟩ => ⟨v, hy, floatT_mono h l _ hK⟩
theorem wpAnyT_of_pre {n m g : Nat} {B : Array Bool → Bool} {Q : Exit → Act → World → Prop} (hQ : ∀ c a w, ¬ Q (.panic c) a w) (hsel : Region.noSelect ops = true) (hnm : n ≤ m) (hms : m < ops.size)
    (hwm : ∀ listed, HeadInv md ops m listed → ∀ i, i < m → listed.getD i true = false → ∀ t, m ≤ t → t ∉ Region.ready md ops listed) :
    ∀ (l : List Oper) (k : Nat) (listed : Array Bool) (a : Act) (w : World), (∀ j, j < l.length → l[j]? = ops[k + j]?) → k + l.length ≤ n → T w → HeadInv md ops n listed → HeadInv md ops m listed → (∀ j, j < k → listed.getD j false = true) → headB md ops B l.length k listed = true →
      wpFloatT P ops T (fun a => ∀ listed', HeadInv md ops n listed' → (∀ j, j < k + l.length → listed'.getD j false = true) → B listed' = true → wpAnyT P md ops T m Q g listed' a w) l a → wpAnyT P md ops T m Q (g + l.length) listed a w
  | [], k, listed, a, w, _, _, _, inv, _, hj, hB, h => h listed inv (by simpa using hj) (by simpa [headB] using hB)
  | o :: l, k, listed, a, w, hl, hk, hT, inv, inv2, hj, hB, h => by
    have h0 : ops[k]? = some o := by simpa using (hl 0 (by simp)).symm
    simp only [List.length_cons, headB, Bool.and_eq_true] at hB
    obtain ⟨⟨hr, hf⟩, hB'⟩ := hB
    have hkn : k < n := by simp only [List.length_cons] at hk; omega
    have hr' : k ∈ Region.ready md ops listed := by simpa using hr
    obtain ⟨v, hy, hK⟩ := h
    refine wpAnyT_first h0 (Region.noSelect_spec hsel) hQ (I := HeadInv md ops m) (fun ls j hi hr hj => hi.set hr hj) (fun ls hi hun t ht => hwm ls hi k (by omega) hun t ht) (g + l.length) listed a w hT inv2 (Region.free_spec h0 hf) hr' hy
      (wpAnyT_of_pre hQ hsel hnm hms hwm l (k + 1) _ _ w (fun j hj => by have := hl (j + 1) (by simp; omega); simpa [Nat.add_assoc, Nat.add_comm 1 j] using this) (by simp only [List.length_cons] at hk; omega) hT (inv.set hr' hkn) (inv2.set hr' (by omega)) (fun j hjk => ?_) hB' ?_)
    · by_cases e : k = j
      · subst e
        have : k < listed.size := by rw [inv.size]; omega
        simp [Array.getD, this]
      · exact getD_set_true (hj j (by omega))
    · simpa [Nat.add_assoc, Nat.add_comm 1 l.length] using hK
def lexPreTB (md : Region.Mode) (ops : Array Oper) (p n : Nat) : Bool :=
  lexPreB md ops p n && decide (n + 1 < ops.size) && sinkFrom md ops 0 (n + 1) && behindB md ops (n + 1)
/-- It ends as it should, in a world of the kind T, and what follows is as it should. -/
def goesInto (P : Program) (ops : Array Oper) (T : World → Prop) (Q : Exit → Act → World → Prop) (rest : List Oper) (e : Exit) (a : Act) (w : World) : Prop := e = .normal ∧ T w ∧ wpList P ops (goesOn Q) rest a w
/-- p operations that tell one value in every world of the kind T; a head, to the n-th, that stays in S; the n-th, which stays in T; a forced tail. -/
theorem wp_region_det_preT (S T : World → Prop) {id : Nat} {Q : Exit → Act → World → Prop} {a : Act} {w : World} {l : List Oper} (p n : Nat) (hST : ∀ w, S w → T w) (hm : P.follows .mixedOrders = true) (hB : lexPreTB .any l.toArray p n = true)
    (hS : S w.drew) (h : wpFloatT P l.toArray T (fun a => wpDet P l.toArray S (fun a' => ∀ w', S w' → wpList P l.toArray (goesInto P l.toArray T Q (l.drop (n + 1))) ((l.drop n).take 1) a' w') ((l.take n).drop p) a) (l.take p) a) : (Code.region id l.toArray true).wp P Q a w := by
  simp only [lexPreTB, lexPreB, Bool.and_eq_true, decide_eq_true_eq] at hB
  obtain ⟨⟨⟨⟨⟨⟨⟨⟨hsel, hpn⟩, hn⟩, hs⟩, hc⟩, hlex⟩, hn1⟩, hs1⟩, hc1⟩ := hB
  have hn' : n < l.length := by simpa using hn
  have hn1' : n + 1 < l.length := by simpa using hn1
  have hpl : (l.take p).length = p := by simp; omega
  have hml : ((l.take n).drop p).length = n - p := by simp; omega
  have hdl : (l.drop (n + 1)).length = l.toArray.size - (n + 1) := by simp
  have inv0 : ∀ k, HeadInv .any l.toArray k (Array.replicate l.toArray.size false) := fun k =>
    ⟨by simp, fun j oj _ hl => (by rw [getD_replicate_false] at hl; cases hl), fun t _ ht => getD_in (by simpa using ht) (getD_replicate_false _ _)⟩
  refine Code.wp_mono (Q := goesOn Q) (fun e a w h => by obtain ⟨rfl, h⟩ := h; exact h) (wp_region_any hm (wpAny_of_T (T := T) (m := n + 1) _ _ _ _ ?_))
  have pre := wpAnyT_of_pre (P := P) (T := T) (md := .any) (ops := l.toArray) (n := n) (m := n + 1) (g := (n - p) + (l.toArray.size - n)) (B := fun l1 => headB .any l.toArray (Region.seqB .any l.toArray (l.toArray.size - n) n) (n - p) p l1) (Q := goesOn Q) (fun c a w h => by cases h.1) hsel (by omega) hn1
    (fun ls hi i hin hun t ht => tail_waits3 hs1 hc1 hn1 hi _ i rfl (Nat.zero_le _) hin hun t ht)
    (l.take p) 0 _ a w.drew (fun j hj => by have hj' : j < p := by rw [hpl] at hj; exact hj
                                            simp [hj']) (by rw [hpl]; omega) (hST _ hS) (inv0 n) (inv0 (n + 1)) (fun j hj => absurd hj (Nat.not_lt_zero j)) (by rw [hpl]; exact hlex) ?_
  · rw [hpl, show (n - p) + (l.toArray.size - n) + p = l.toArray.size by omega] at pre
    exact pre
  · refine floatT_mono (fun a' hK => ?_) _ _ h
    intro listed' inv' hj' hB'
    have H := wpAnyLD_lexI (P := P) (S := S) (md := .any) (ops := l.toArray) (n := n) (I := fun ls => HeadInv .any l.toArray n ls ∧ ∀ j, j < p → ls.getD j false = true)
      (fun ls j hi hr hj => ⟨hi.1.set hr hj, fun i hi' => getD_set_true (hi.2 i hi')⟩)
      (B := Region.seqB .any l.toArray (l.toArray.size - n) n) (fun listed h => seqB_ready h) hsel
      (fun ls hi i hin hun t ht => by
        rcases Nat.lt_or_ge i p with hip | hip
        · have h1 := hi.2 i hip
          rw [getD_both hun] at h1; cases h1
        · exact tail_waits3 hs hc (by simpa using hn') hi.1 _ i rfl hip hin hun t ht)
      ((l.take n).drop p) p listed' a' (fun j hj => by
        have hj' : j < n - p := by rw [hml] at hj; exact hj
        simp [List.getElem?_drop, show p + j < n by omega]) (by rw [hml]; omega) ⟨inv', fun j hj => hj' j (by rw [hpl]; omega)⟩ (by rw [hml]; exact hB') hK
    have key := wpAnyT_of_headD (P := P) (S := S) (T := T) (md := .any) (ops := l.toArray) (m := n + 1) (Q' := goesOn Q) (g := l.toArray.size - n) hST (fun listed a' w' hL hS' => by
      have hh := hL.2 w' hS'
      have hB1 := hL.1
      have h0 : l.toArray[n]? = some l[n] := by simp [hn']
      rw [show (l.drop n).take 1 = [l[n]] by rw [List.drop_eq_getElem_cons hn']; rfl] at hh
      rw [show l.toArray.size - n = (l.toArray.size - (n + 1)) + 1 by omega] at hB1 ⊢
      simp only [Region.seqB, Bool.and_eq_true, decide_eq_true_eq] at hB1
      refine ⟨fun h1 => (by rw [hB1.1] at h1; cases h1), fun i hi => ?_⟩
      rw [hB1.1] at hi
      obtain rfl : i = n := by simpa using hi
      have hw : wpOp P l.toArray (goesOn Q) i (fun a' w' => T w' ∧ wpList P l.toArray (goesOn Q) (l.drop (i + 1)) a' w') a' w' := by
        unfold wpOp
        simp only [h0]
        unfold wpList at hh
        by_cases hwt : Region.wanted l[i] (yielded l.toArray a'.tmps) = true
        · rw [if_pos hwt] at hh ⊢
          rcases hh with hh | ⟨_, hh⟩
          · left
            unfold Oper.wp at hh ⊢
            generalize (execOp a'.eval l[i]).run P w' = r at hh ⊢
            cases r with
            | ok x w2 =>
              cases x with
              | value u => exact hh.2
              | skip => exact hh.2
              | defer d => exact hh.2
              | enter f args =>
                refine Calls.mono hh fun e w3 he => ?_
                cases e with
                | returned u => exact he.2
                | panicked c => cases he.1
                | outgrown => obtain ⟨_, _, h, _⟩ := he; cases h
              | row row args => exact Rows.mono hh fun u w3 he => he.2
              | _ => exact hh
            | halt x w2 =>
              cases x with
              | panic u => cases hh.1
              | _ => exact hh
          · obtain ⟨_, _, h, _⟩ := hh; cases h
        · rw [if_neg hwt] at hh ⊢
          exact hh.2
      exact wpOp_mono (fun a2 w2 h' => ⟨fun _ => h'.1, by
        have := wpAnyT_of_seq (P := P) (T := T) (md := .any) (ops := l.toArray) (m := i + 1) (Q := goesOn Q) (l.drop (i + 1)) (i + 1) (listed.setIfInBounds i true) a2 w2 (Nat.le_refl _) (fun j => by simp [List.getElem?_drop]) (by rw [hdl]; exact hB1.2) h'.2
        rwa [hdl] at this⟩) hw) _ _ _ _ hS H
    rw [hml] at key
    exact key
end
end Go.Proofs.YtmlfnidckfeebaaGreatDoor
