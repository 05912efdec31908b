/- Copies onto a slice of the call's own; the append of a make onto one. -/
import Derived.Test.YteiblfcehlibpaaGreatDoorGF23
import Derived.Laws.CopyRow
import Derived.Lib.Overlaps
namespace Go.Proofs.YteiblfcehlibpaaGreatDoor
open Go.RowKit Go.Shelf
theorem setRow_isBlk {w : World} {g : Nat} {t : TypeId} {cs cs' : Array Value} (h : isBlk w g t cs) : isBlk (w.setRow g cs') g t cs' := setRow_heap w g cs cs' t (0, 0) h
section
variable {P : Program} {ops : Array Oper} {rest : List Oper} {o : Oper} {a : Act} {Q : Exit → Act → World → Prop} {w : World}
/-- One with a place more: what stands there is not told. -/
theorem own_more {w : World} {B g n cap : Nat} {e : TypeId} {xs : List Value} (h : w.ownsRow B e 1 (.slice (some ⟨g, 0, none⟩) n cap) n xs) (hc : n < cap) :
    ∃ y, w.ownsRow B e 1 (.slice (some ⟨g, 0, none⟩) (n + 1) cap) (n + 1) (xs ++ [y]) := by
  obtain ⟨hl, h⟩ := h
  rcases h with ⟨h, _⟩ | ⟨g', cap', cur, hv, hb, hh, hn, hm, hs, ht⟩
  · cases h
  · cases hv
    rw [Nat.mul_one] at hl hs ht
    have hy : n < cur.toList.length := by simp; omega
    refine ⟨cur.toList[n], by simp [hl], .inr ⟨g, cap, cur, rfl, hb, hh, by omega, hm, by omega, ?_⟩⟩
    rw [Nat.mul_one, ← ht, List.take_succ_eq_append_getElem hy]
/-- The first so many. -/
theorem own_less {w : World} {B g n cap : Nat} {e : TypeId} {xs : List Value} (h : w.ownsRow B e 1 (.slice (some ⟨g, 0, none⟩) n cap) n xs) (i : Nat) (hi : i ≤ n) :
    w.ownsRow B e 1 (.slice (some ⟨g, 0, none⟩) i cap) i (xs.take i) := by
  obtain ⟨hl, h⟩ := h
  rcases h with ⟨h, _⟩ | ⟨g', cap', cur, hv, hb, hh, hn, hm, hs, ht⟩
  · cases h
  · cases hv
    rw [Nat.mul_one] at hl hs ht
    refine ⟨by simp; omega, .inr ⟨g, cap, cur, rfl, hb, hh, by omega, hm, by omega, ?_⟩⟩
    rw [Nat.mul_one, ← ht, List.take_take, Nat.min_eq_left hi]
theorem copy_own (hgd : o.guard = none) (d x : Operand) {t u e : TypeId} (ho : o.op = .call { callee := .builtin .copy, args := #[d, x], argTypes := #[t, u] }) (ht : P.underlying t = some (.slice e)) (hi : (P.info? e).map (·.size) = some 1)
    (B g n cap : Nat) (xs : List Value) (hown : w.ownsRow B e 1 (.slice (some ⟨g, 0, none⟩) n cap) n xs) (k dl dc : Nat) (hd : a.eval d = .slice (some ⟨g, k, none⟩) dl dc) (hk : k + dl = n)
    (X : Addr) (sl sc : Nat) (hx : a.eval x = .slice (some X) sl sc) (cs : List Value) (hcl : cs.length = Nat.min sl dl) (hsrc : ∀ j v, cs[j]? = some v → w.cell? (X.add j) = some v) (h1 : ∀ v ∈ cs, v.oneCell' = true)
    (h : ∀ w', w'.ownsRow B e 1 (.slice (some ⟨g, 0, none⟩) n cap) n (xs.take k ++ cs ++ xs.drop (k + cs.length)) → Only g w w' → Below B w w' → wpList P ops Q rest (a.put o.dst (.int .i64 cs.length)) w') : wpList P ops Q (o :: rest) a w := by
  have hcd : cs.length ≤ dl := by rw [hcl]; exact Nat.min_le_right _ _
  obtain ⟨hl, hb⟩ := hown
  rcases hb with ⟨hb, _⟩ | ⟨g', cap', cur, hv, hb, hh, hn, hm, hs, ht2⟩
  · cases hb
  cases hv
  rw [Nat.mul_one] at hl hs ht2
  have hrun := run_copy_row P w t u o.type e g k dl dc X sl sc cur e cs ht hi hh hcl hsrc (by omega) h1
  refine wpList_plain hgd fun K hK => ?_
  unfold Oper.wp execOp
  simp only [ho, resolve, invoke, builtin, Sem.run_bind, Sem.run_pure, Result.andThen_ok, List.map_toArray, List.map_cons, List.map_nil, hd, hx, hrun]
  have X2 : isBlk (w.setRow g (cur.toList.take k ++ cs ++ cur.toList.drop (k + cs.length)).toArray) g e _ := setRow_isBlk hh
  refine hK _ _ (h _ ⟨?_, .inr ⟨g, cap, _, rfl, hb, X2, hn, hm, ?_, ?_⟩⟩ (Only.setRow g _ w) ((Only.setRow g _ w).below hb (by have := isBlk.lt hh; omega)))
  · simp; omega
  · simp; omega
  · rw [Nat.mul_one]
    apply List.ext_getElem?
    intro m
    have hxm : ∀ j, xs[j]? = if j < n then cur.toList[j]? else none := fun j => by rw [← ht2, List.getElem?_take]
    simp only [List.getElem?_take, List.getElem?_append, List.getElem?_drop, hxm, List.length_append, List.length_take, Array.length_toList]
    rw [show min k cur.size = k by omega, show min k xs.length = k by omega]
    by_cases m1 : m < k
    · have m2 : m < k + cs.length := by omega
      have m3 : m < n := by omega
      simp only [m1, m2, m3, if_true]
    · by_cases m2 : m < k + cs.length
      · have m3 : m < n := by omega
        simp only [m1, m2, m3, if_true, if_false]
      · have e : k + cs.length + (m - (k + cs.length)) = m := by omega
        simp only [m2, if_false, e]
/-- A make of so many makes one that has no room for it a new one. -/
theorem app_grow {t tn e : TypeId} {bytes : Nat} (hst : AppStat P t e 1 bytes) (htn : P.underlying tn = some (.int .i64)) (hgd : o.guard = none) (s x : Operand) (ho : o.op = .call { callee := .builtin .append, args := #[s, x], argTypes := #[t, tn] })
    (B g n cap : Nat) (xs : List Value) (hown : w.ownsRow B e 1 (.slice (some ⟨g, 0, none⟩) n cap) n xs) (k m : Nat) (hm : n + k = m) (hk : 0 < k) (hs : a.eval s = .slice (some ⟨g, 0, none⟩) n cap) (hx : a.eval x = .int .i64 k) (hg : cap < m) (hcap : m * bytes ≤ 140737488355328)
    (h : ∀ g' cap' zs w', w.heap.size ≤ g' → zs.length = k → w'.ownsRow w.heap.size e 1 (.slice (some ⟨g', 0, none⟩) m cap') m (xs ++ zs) → Ext w w' → wpList P ops Q rest (a.put o.dst (.slice (some ⟨g', 0, none⟩) m cap')) w') : wpList P ops Q (o :: rest) a w := by
  subst hm
  obtain ⟨ht, hz0, hb0, i, z, hi, hz, hsz, hby, hzs⟩ := hst
  have hnb : (n + k) ≤ (n + k) * bytes := Nat.le_mul_of_pos_right _ hb0
  have h63 : ((n + k : Nat) : Int) ≤ 9223372036854775807 := by omega
  have hxl := own_len hown
  rw [Nat.mul_one] at hxl
  have hold : (Builtin.firstCells i.size n (.slice (some ⟨g, 0, none⟩) n cap)).run P w.drew = .ok xs.toArray w.drew := by
    have hl := run_loadCells_list (P := P) w.drew ⟨g, 0, none⟩ xs fun m u hu => by
      rw [show (⟨g, 0, none⟩ : Addr).add m = ⟨g, m, none⟩ from by unfold Addr.add; split <;> simp_all]
      exact (own_isBlk hown m u hu).1
    rw [hxl] at hl
    rw [hsz]
    simpa [Builtin.firstCells] using hl
  have hkb : k * bytes ≤ (n + k) * bytes := Nat.mul_le_mul_right _ (by omega)
  have hnx : Builtin.nextslicecap (n + k) cap * i.bytes ≤ 281474976710656 := by
    rw [hby]
    exact growslice_fits hg hcap
  have run := Lib.run_append_grow_zeros (P := P) w t tn o.type e i z .i64 .i64 ht htn hi hz (some ⟨g, 0, none⟩) n cap xs hold k hk (by omega) hg h63 (by rw [hby]; omega) hnx
  refine Lib.wpList_append_run w hgd s x t tn ho _ _ hs hx _ _ run ?_
  have hg1 : n + k ≤ grownCap w (n + k) cap e := grownCap_ge w _ _ _
  have hg2 := grownCap_le_maxLen w (n + k) cap e (by unfold maxLen; omega)
  have hzc : ∀ k, (Builtin.zeroCells z.cells k).size = k := fun k => by simp [Builtin.zeroCells, hzs]
  have hzc2 : ∀ k, (Builtin.zeroCells z.cells k).toList.length = k := fun k => by rw [Array.length_toList, hzc]
  refine h w.heap.size _ (Builtin.zeroCells z.cells k).toList _ (Nat.le_refl _) (hzc2 k) ⟨by simp [hxl, hzc], .inr ⟨w.heap.size, _, _, rfl, Nat.le_refl _, heap_alloc_new w.drew _, hg1, hg2, ?_, ?_⟩⟩ ((Below.refl _ _).drew.alloc (Nat.le_refl _) _)
  · simp only [Array.size_append, hzc]
    simp [hxl]
    omega
  · rw [Nat.mul_one, Array.toList_append, Array.toList_append, List.take_append_of_le_length (by simp [hxl, hzc]), List.take_of_length_le (by simp [hxl, hzc])]
/-- For an arm of the walk's: this operation is a copy. -/
theorem at_cpy {xs : Array Operand} {ts : Array TypeId} (_ho : o.op = .call { callee := .builtin .copy, args := xs, argTypes := ts }) (h : wpList P ops Q (o :: rest) a w) : wpList P ops Q (o :: rest) a w := h
end
theorem isBlk.read {w : World} {g : Nat} {t : TypeId} {cs : Array Value} (h : isBlk w g t cs) (j : Nat) (v : Value) (hj : cs.toList[j]? = some v) : w.cell? ((⟨g, 0, none⟩ : Addr).add j) = some v := by
  rw [show (⟨g, 0, none⟩ : Addr).add j = ⟨g, j, none⟩ from by unfold Addr.add; split <;> simp_all, h.cell j]
  simpa using hj
theorem isBlk.one {w : World} {g : Nat} {t : TypeId} {u : Value} (h : isBlk w g t #[u]) : Cells w (some ⟨g, 0, none⟩) [u] := fun _ => ⟨g, 0, rfl, fun j v hj => by rw [Nat.zero_add, h.cell j]; simpa using hj⟩
theorem own_lower {w : World} {B B' n : Nat} {e : TypeId} {size : Nat} {v : Value} {xs : List Value} (h : w.ownsRow B e size v n xs) (hB : B' ≤ B) : w.ownsRow B' e size v n xs := by
  refine ⟨h.1, ?_⟩
  rcases h.2 with h | ⟨g, cap, cur, h1, h2, h3⟩
  · exact .inl h
  · exact .inr ⟨g, cap, cur, h1, Nat.le_trans hB h2, h3⟩
theorem below_lower {w w' : World} {B B' : Nat} (h : Below B w w') (hB : B' ≤ B) : Below B' w w' := ⟨h.os, h.tape, h.output, h.size, fun k hk => h.block k (Nat.lt_of_lt_of_le hk hB)⟩
theorem ins_grow (xs zs : List Value) (u : Value) (i : Nat) (hi : i ≤ xs.length) (hz : zs.length = xs.length + 1 - i) :
    (List.take (i + 1) ((xs.take i ++ zs).take i ++ [u] ++ (xs.take i ++ zs).drop (i + [u].length)) ++ xs.drop i ++ List.drop (i + 1 + (xs.drop i).length) ((xs.take i ++ zs).take i ++ [u] ++ (xs.take i ++ zs).drop (i + [u].length))) = xs.take i ++ u :: xs.drop i := by
  have hl : (xs.take i).length = i := by simp; omega
  have e1 : (xs.take i ++ zs).take i = xs.take i := by rw [List.take_append_of_le_length (by omega), List.take_of_length_le (by omega)]
  have e2 : ((xs.take i ++ [u]) : List Value).length = i + 1 := by simp; omega
  have e3 : List.drop (i + 1 + (xs.drop i).length) (xs.take i ++ [u] ++ (xs.take i ++ zs).drop (i + [u].length)) = [] := List.drop_eq_nil_of_le (by simp; omega)
  rw [e1, e3, List.append_nil, List.take_append_of_le_length (by omega), List.take_of_length_le (by omega), List.append_assoc]
  rfl
theorem ins_room (xs : List Value) (y u : Value) (i : Nat) (hi : i ≤ xs.length) :
    (List.take i (List.take (i + 1) (xs ++ [y]) ++ xs.drop i ++ List.drop (i + 1 + (xs.drop i).length) (xs ++ [y])) ++ [u] ++ List.drop (i + [u].length) (List.take (i + 1) (xs ++ [y]) ++ xs.drop i ++ List.drop (i + 1 + (xs.drop i).length) (xs ++ [y]))) = xs.take i ++ u :: xs.drop i := by
  have e0 : List.drop (i + 1 + (xs.drop i).length) (xs ++ [y]) = [] := List.drop_eq_nil_of_le (by simp; omega)
  have e1 : ((xs ++ [y]).take (i + 1)).length = i + 1 := by simp; omega
  have e2 : ((xs ++ [y]).take (i + 1)).take i = xs.take i := by rw [List.take_take, Nat.min_eq_left (by omega), List.take_append_of_le_length hi]
  rw [e0, List.append_nil, List.take_append_of_le_length (by omega), e2, List.append_assoc]
  congr 1
  rw [show i + [u].length = ((xs ++ [y]).take (i + 1)).length by rw [e1]; rfl, List.drop_left]
  rfl
end Go.Proofs.YteiblfcehlibpaaGreatDoor
