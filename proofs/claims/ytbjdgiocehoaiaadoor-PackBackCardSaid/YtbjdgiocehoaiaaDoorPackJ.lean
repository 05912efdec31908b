/- Walks: the first bytes of a text, and another text behind. -/
import Derived.Test.YtbjdgiocehoaiaaDoorPackL
import Derived.Test.YtbjdgiocehoaiaaDoorSpec47R
import Derived.Lib.BufferWrite
import Derived.Lib.AppendStr
import Derived.Laws.CopyOwn
namespace Go.Proofs.YtbjdgiocehoaiaaDoor
open Go.RowKit
section
variable {P : Program} {ops : Array Oper} {rest : List Oper} {o : Oper} {a : Act} {Q : Exit → Act → World → Prop} {w : World}
/-- For an arm of the walk's: this operation is a copy. -/
theorem at_copy {xs : Array Operand} {ts : Array TypeId} (_ho : o.op = .call { callee := .builtin .copy, args := xs, argTypes := ts }) (h : wpList P ops Q (o :: rest) a w) : wpList P ops Q (o :: rest) a w := h
/-- A text is copied onto a slice of the call's own, of its length. -/
theorem copy_all (hgd : o.guard = none) (d x : Operand) {t u e : TypeId} (ho : o.op = .call { callee := .builtin .copy, args := #[d, x], argTypes := #[t, u] }) (ht : P.underlying t = some (.slice e)) (hi : (P.info? e).map (·.size) = some 1)
    (B g n : Nat) (xs : List Value) (hd : a.eval d = .slice (some ⟨g, 0, none⟩) n n) (hown : w.ownsRow B e 1 (.slice (some ⟨g, 0, none⟩) n n) n xs) (s : ByteArray) (hx : a.eval x = .string s) (hs : s.size = n)
    (h : ∀ w', w'.heap[g]? = some (.cells (s.data.toList.map byteV).toArray e (0, 0)) → Below B w w' → wpList P ops Q rest (a.put o.dst (.int .i64 n)) w') : wpList P ops Q (o :: rest) a w := by
  obtain ⟨cur, hg, hcs, hB⟩ : ∃ cur, w.heap[g]? = some (.cells cur e (0, 0)) ∧ cur.size = n ∧ B ≤ g := by
    rcases hown.2 with ⟨h1, _⟩ | ⟨g', cap', cur, h1, hbg, hgg, _, _, hcs, _⟩
    · cases h1
    · injection h1 with h2 _ h3
      injection h2 with h2
      injection h2 with h2
      subst h2; subst h3
      exact ⟨cur, hgg, by simpa using hcs, hbg⟩
  have hrun := Lib.run_copy_row_string (P := P) w t u o.type e g 0 n n s cur e ht hi hg (by omega) (by omega)
  have e1 : (List.take 0 cur.toList ++ Lib.byteCells s.data.toList ++ List.drop (0 + s.size) cur.toList).toArray = (s.data.toList.map byteV).toArray := by
    rw [List.drop_eq_nil_of_le (by simp; omega)]; simp [Lib.byteCells, byteV]
  rw [e1] at hrun
  refine wpList_plain hgd fun K hK => ?_
  unfold Oper.wp execOp
  simp only [ho, resolve, invoke, builtin, Sem.run_bind, Sem.run_pure, Result.andThen_ok, List.map_toArray, List.map_cons, List.map_nil, hd, hx, hrun]
  refine hK _ _ ?_
  rw [hs]
  exact h _ (setRow_heap w g cur _ e _ hg) (below_setRow (Below.refl B w) hB _)
/-- A text is appended to bytes that have no room. -/
theorem app_str_any (hgd : o.guard = none) (sl x : Operand) {t u e : TypeId} (ho : o.op = .call { callee := .builtin .append, args := #[sl, x], argTypes := #[t, u] }) (ht : P.underlying t = some (.slice e)) (hu : P.underlying u = some .string)
    (i : TypeInfo) (hi : P.info? e = some i) (hz : i.zero = some (.int .u8 0)) (hsize : i.size = 1) (hby : i.bytes = 1)
    (B g n : Nat) (cur : Array Value) (olds : List UInt8) (hol : olds.length = n) (hv : a.eval sl = .slice (some ⟨g, 0, none⟩) n n) (hg : w.heap[g]? = some (.cells cur e (0, 0))) (htk : cur.toList.take n = olds.map byteV) (hn : n ≤ cur.size)
    (s : ByteArray) (hx : a.eval x = .string s) (hb : n + s.size ≤ 4294967295) (hBg : B ≤ g) (hBw : B ≤ w.heap.size)
    (h : ∀ g' cap' w', (∀ j, (hj : j < (olds ++ s.data.toList).length) → w'.cell? ⟨g', 0 + j, none⟩ = some (byteV (olds ++ s.data.toList)[j])) → Below B w w' → wpList P ops Q rest (a.put o.dst (.slice (some ⟨g', 0, none⟩) (n + s.size) cap')) w') : wpList P ops Q (o :: rest) a w := by
  have holds : ∀ j v, (olds.map byteV)[j]? = some v → w.cell? ((⟨g, 0, none⟩ : Addr).add j) = some v := fun j v hj => by
    rw [show (⟨g, 0, none⟩ : Addr).add j = ⟨g, 0 + j, none⟩ from by simp [Addr.add]; omega, cell_of_row w g (0 + j) cur e (0, 0) hg, Nat.zero_add]
    rw [← htk] at hj
    rw [← Array.getElem?_toList]
    rw [List.getElem?_take] at hj
    split at hj
    · exact hj
    · cases hj
  refine wpList_plain hgd fun K hK => ?_
  by_cases h0 : s.size = 0
  · have hr := Lib.run_append_room_string (P := P) w t u o.type e i ht hu hi hsize g n n cur hg s (by omega) (by omega)
    have hsn : s.data.toList = [] := data_nil s h0
    unfold Oper.wp execOp
    simp only [ho, resolve, invoke, builtin, Sem.run_bind, Sem.run_pure, Result.andThen_ok, List.map_toArray, List.map_cons, List.map_nil, hv, hx, hr]
    refine hK _ _ (h g n _ (fun j hj => ?_) (below_setRow (Below.refl B w) hBg _))
    have hj' : j < olds.length := by simpa [hsn] using hj
    rw [cell_of_row _ g (0 + j) _ e (0, 0) (setRow_heap w g cur _ e _ hg), Nat.zero_add]
    simp only [Lib.strCells, hsn, List.map_nil, List.append_nil, htk]
    rw [List.getElem?_toArray, List.getElem?_append_left (by simpa using hj')]
    simp [hj']
  · have hr := Lib.run_append_grow_string (P := P) w t u o.type e i (.int .u8 0) ht hu hi hz ⟨g, 0, none⟩ n n (olds.map byteV) (by rw [hsize]; simpa using hol) holds s (by omega) (by omega) (by rw [hby]; exact growslice_fits (by omega) (by omega))
    unfold Oper.wp execOp
    simp only [ho, resolve, invoke, builtin, Sem.run_bind, Sem.run_pure, Result.andThen_ok, List.map_toArray, List.map_cons, List.map_nil, hv, hx, hr]
    refine hK _ _ (h _ _ _ (fun j hj => ?_) (((Below.refl B w).drew).alloc (by simpa using hBw) _))
    rw [cell_of_row _ w.heap.size (0 + j) _ e (0, 0) (heap_alloc_new w.drew _), Nat.zero_add]
    rw [← Array.getElem?_toList]
    simp only [Array.toList_append]
    rw [List.getElem?_append_left (by simpa [Lib.strCells] using hj)]
    rw [show Lib.strCells s = s.data.toList.map byteV from strCells_eq s, ← List.map_append, List.getElem?_map, List.getElem?_eq_getElem hj]
    rfl
end
theorem mkBytes : MakeStat Tryd.prog 49 5 (.int .u8 0) 1 := by
  refine ⟨Tryd.underlying49, rfl, ?_⟩
  obtain ⟨i0, hi, hz0, hz1, hz2⟩ := info_parts (show (Tryd.prog.info? 5).map (fun i => (i.zero, i.size, i.bytes)) = some (some (.int .u8 0), 1, 1) by kernel_rfl)
  exact ⟨i0, hi, hz0, hz1, hz2⟩
theorem conv_joined (a r : List UInt8) (n : Nat) (hn : n ≤ a.length) (g cap : Nat) (w : World) (hc : ∀ j, (hj : j < (a.take n ++ r).length) → w.cell? ⟨g, 0 + j, none⟩ = some (byteV (a.take n ++ r)[j])) :
    (convert 49 9 (.slice (some ⟨g, 0, none⟩) (n + r.length) cap)).run Tryd.prog w = .ok (.string (strOf (a.take n ++ r))) w := by
  have hl : n + r.length = (a.take n ++ r).length := by simp; omega
  rw [hl]
  exact conv_cells Tryd.underlying49 Tryd.underlying5 Tryd.underlying9 g 0 cap (a.take n ++ r) hc
set_option maxRecDepth 100000 in
set_option maxHeartbeats 2000000 in
theorem joined_calls (a : List UInt8) (n : Nat) (r : List UInt8) (w : World) (hn : n ≤ a.length) (ha : a.length ≤ 100000) (hr : r.length ≤ 100000) :
    Calls Tryd.prog 51 #[.string (strOf a), .int .i64 n, .string (strOf r)] w fun e w' => e = .returned (.string (strOf (a.take n ++ r))) ∧ Below w.heap.size w w' := by
  obtain ⟨i0, hif, hz0, hz1, hz2⟩ := info_parts (show (Tryd.prog.info? 5).map (fun i => (i.zero, i.size, i.bytes)) = some (some (.int .u8 0), 1, 1) by kernel_rfl)
  have s1 : (strOf a).size = a.length := strOf_size _
  have s2 : (strOf r).size = r.length := strOf_size _
  go_enter Tryd.func51, Tryd.ntmps51
  go_wp2_with (first
    | (refine make_new mkBytes rfl _ _ rfl a.length (by go_simp) (by go_simp) (by omega) (by unfold maxLen; omega) ?_; intro g w1 hg hown hb1)
    | (with_reducible refine at_copy rfl ?_; refine copy_all rfl _ _ rfl Tryd.underlying49 (by kernel_rfl) w.heap.size g a.length _ rfl hown (strOf a) rfl s1 ?_; intro w2 hg2 hb2; rw [strOf_data] at hg2)
    | (at_builtin; (refine app_str_any rfl _ _ rfl Tryd.underlying49 Tryd.underlying9 i0 hif hz0 hz1 hz2 w.heap.size g n _ (a.take n) (by simp; omega) rfl hg2 (by simp [List.map_take]) (by simp; omega) (strOf r) rfl (by omega) hg (Nat.le_trans hb1.size hb2.size) ?_; intro g3 cap3 w3 hc3 hb4; have cv := conv_joined a r n hn g3 cap3 w3 (by rw [strOf_data] at hc3; exact hc3))))
  go_ret
  exact ⟨rfl, (hb1.trans hb2).trans hb4⟩
end Go.Proofs.YtbjdgiocehoaiaaDoor
