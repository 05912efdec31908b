/- Copies onto a slice of the call's own; the append of a make onto one. A law for a region that draws its order: first operations that tell one value in every world of a kind T, and may come late; a steady head; an operation that makes something and leaves the kind; a forced tail. Trees: plain. Walks: which of two paths stands ahead. Trees: what is put into one. -/
import Derived.Laws.CopyRow
import Derived.Lib.Overlaps
import Derived.Scope
import Derived.Test.YtmlfnidckfeebaaGreatDoorRF012
namespace Go.Proofs.YtmlfnidckfeebaaGreatDoor
open Go.RowKit Go.Shelf
theorem setRow_isBlk {w : World} {g : Nat} {t : TypeId} {cs cs' : Array Value} (h : isBlk w g t cs) : isBlk (w.setRow g cs') g t cs' := setRow_heap w g cs cs' t (0, 0) h
section
variable {P : Program} {ops : Array Oper} {rest : List Oper} {o : Oper} {a : Act} {Q : Exit → Act → World → Prop} {w : World}
theorem own_more {w : World} {B g n cap : Nat} {e : TypeId} {xs : List Value} (h : w.ownsRow B e 1 (.slice (some ⟨g, 0, none⟩) n cap) n xs) (hc : n < cap) :
    ∃ y, w.ownsRow B e 1 (.slice (some ⟨g, 0, none⟩) (n + 1) cap) (n + 1) (xs ++ [y]) := by
  obtain ⟨hl, h⟩ := h
  rcases h with ⟨h, _⟩ | ⟨g', cap', cur, hv, hb, hh, hn, hm, hs, ht⟩
  · cases h
  · cases hv
    rw [Nat.mul_one] at hl hs ht
    have hy : n < cur.toList.length := by simp; omega
    refine ⟨cur.toList[n], by simp [hl], .inr ⟨g, cap, cur, rfl, hb, hh, by omega, hm, by omega, ?_⟩⟩
    rw [Nat.mul_one, ← ht, List.take_succ_eq_append_getElem hy]
theorem own_less {w : World} {B g n cap : Nat} {e : TypeId} {xs : List Value} (h : w.ownsRow B e 1 (.slice (some ⟨g, 0, none⟩) n cap) n xs) (i : Nat) (hi : i ≤ n) :
    w.ownsRow B e 1 (.slice (some ⟨g, 0, none⟩) i cap) i (xs.take i) := by
  obtain ⟨hl, h⟩ := h
  rcases h with ⟨h, _⟩ | ⟨g', cap', cur, hv, hb, hh, hn, hm, hs, ht⟩
  · cases h
  · cases hv
    rw [Nat.mul_one] at hl hs ht
    refine ⟨by simp; omega, .inr ⟨g, cap, cur, rfl, hb, hh, by omega, hm, by omega, ?_⟩⟩
    rw [Nat.mul_one, ← ht, List.take_take, Nat.min_eq_left hi]
theorem copy_own (hgd : o.guard = none) (d x : Operand) {t u e : TypeId} (ho : o.op = .call { callee := .builtin .copy, args := #[d, x], argTypes := #[t, u] }) (ht : P.underlying t = some (.slice e)) (hi : (P.info? e).map (·.size) = some 1)
    (B g n cap : Nat) (xs : List Value) (hown : w.ownsRow B e 1 (.slice (some ⟨g, 0, none⟩) n cap) n xs) (k dl dc : Nat) (hd : a.eval d = .slice (some ⟨g, k, none⟩) dl dc) (hk : k + dl = n)
    (X : Addr) (sl sc : Nat) (hx : a.eval x = .slice (some X) sl sc) (cs : List Value) (hcl : cs.length = Nat.min sl dl) (hsrc : ∀ j v, cs[j]? = some v → w.cell? (X.add j) = some v) (h1 : ∀ v ∈ cs, v.oneCell' = true)
    (h : ∀ w', w'.ownsRow B e 1 (.slice (some ⟨g, 0, none⟩) n cap) n (xs.take k ++ cs ++ xs.drop (k + cs.length)) → Only g w w' → Below B w w' → wpList P ops Q rest (a.put o.dst (.int .i64 cs.length)) w') : wpList P ops Q (o :: rest) a w := by
  have hcd : cs.length ≤ dl := by rw [hcl]; exact Nat.min_le_right _ _
  obtain ⟨hl, hb⟩ := hown
  rcases hb with ⟨hb, _⟩ | ⟨g', cap', cur, hv, hb, hh, hn, hm, hs, ht2⟩
  · cases hb
  cases hv
  rw [Nat.mul_one] at hl hs ht2
  have hrun := run_copy_row P w t u o.type e g k dl dc X sl sc cur e cs ht hi hh hcl hsrc (by omega) h1
  refine wpList_plain hgd fun K hK => ?_
  unfold Oper.wp execOp
  simp only [ho, resolve, invoke, builtin, Sem.run_bind, Sem.run_pure, Result.andThen_ok, List.map_toArray, List.map_cons, List.map_nil, hd, hx, hrun]
  have X2 : isBlk (w.setRow g (cur.toList.take k ++ cs ++ cur.toList.drop (k + cs.length)).toArray) g e _ := setRow_isBlk hh
  refine hK _ _ (h _ ⟨?_, .inr ⟨g, cap, _, rfl, hb, X2, hn, hm, ?_, ?_⟩⟩ (Only.setRow g _ w) ((Only.setRow g _ w).below hb (by have := isBlk.lt hh; omega)))
  · simp; omega
  · simp; omega
  · rw [Nat.mul_one]
    apply List.ext_getElem?
    intro m
    have hxm : ∀ j, xs[j]? = if j < n then cur.toList[j]? else none := fun j => by rw [← ht2, List.getElem?_take]
    simp only [List.getElem?_take, List.getElem?_append, List.getElem?_drop, hxm, List.length_append, List.length_take, Array.length_toList]
    rw [show min k cur.size = k by omega, show min k xs.length = k by omega]
    by_cases m1 : m < k
    · have m2 : m < k + cs.length := by omega
      have m3 : m < n := by omega
      simp only [m1, m2, m3, if_true]
    · by_cases m2 : m < k + cs.length
      · have m3 : m < n := by omega
        simp only [m1, m2, m3, if_true, if_false]
      · have e : k + cs.length + (m - (k + cs.length)) = m := by omega
        simp only [m2, if_false, e]
theorem app_grow {t tn e : TypeId} {bytes : Nat} (hst : AppStat P t e 1 bytes) (htn : P.underlying tn = some (.int .i64)) (hgd : o.guard = none) (s x : Operand) (ho : o.op = .call { callee := .builtin .append, args := #[s, x], argTypes := #[t, tn] })
    (B g n cap : Nat) (xs : List Value) (hown : w.ownsRow B e 1 (.slice (some ⟨g, 0, none⟩) n cap) n xs) (k m : Nat) (hm : n + k = m) (hk : 0 < k) (hs : a.eval s = .slice (some ⟨g, 0, none⟩) n cap) (hx : a.eval x = .int .i64 k) (hg : cap < m) (hcap : m * bytes ≤ 140737488355328)
    (h : ∀ g' cap' zs w', w.heap.size ≤ g' → zs.length = k → w'.ownsRow w.heap.size e 1 (.slice (some ⟨g', 0, none⟩) m cap') m (xs ++ zs) → Ext w w' → wpList P ops Q rest (a.put o.dst (.slice (some ⟨g', 0, none⟩) m cap')) w') : wpList P ops Q (o :: rest) a w := by
  subst hm
  obtain ⟨ht, hz0, hb0, i, z, hi, hz, hsz, hby, hzs⟩ := hst
  have hnb : (n + k) ≤ (n + k) * bytes := Nat.le_mul_of_pos_right _ hb0
  have h63 : ((n + k : Nat) : Int) ≤ 9223372036854775807 := by omega
  have hxl := own_len hown
  rw [Nat.mul_one] at hxl
  have hold : (Builtin.firstCells i.size n (.slice (some ⟨g, 0, none⟩) n cap)).run P w.drew = .ok xs.toArray w.drew := by
    have hl := run_loadCells_list (P := P) w.drew ⟨g, 0, none⟩ xs fun m u hu => by
      rw [show (⟨g, 0, none⟩ : Addr).add m = ⟨g, m, none⟩ from by unfold Addr.add; split <;> simp_all]
      exact (own_isBlk hown m u hu).1
    rw [hxl] at hl
    rw [hsz]
    simpa [Builtin.firstCells] using hl
  have hkb : k * bytes ≤ (n + k) * bytes := Nat.mul_le_mul_right _ (by omega)
  have hnx : Builtin.nextslicecap (n + k) cap * i.bytes ≤ 281474976710656 := by
    rw [hby]
    exact growslice_fits hg hcap
  have run := Lib.run_append_grow_zeros (P := P) w t tn o.type e i z .i64 .i64 ht htn hi hz (some ⟨g, 0, none⟩) n cap xs hold k hk (by omega) hg h63 (by rw [hby]; omega) hnx
  refine Lib.wpList_append_run w hgd s x t tn ho _ _ hs hx _ _ run ?_
  have hg1 : n + k ≤ grownCap w (n + k) cap e := grownCap_ge w _ _ _
  have hg2 := grownCap_le_maxLen w (n + k) cap e (by unfold maxLen; omega)
  have hzc : ∀ k, (Builtin.zeroCells z.cells k).size = k := fun k => by simp [Builtin.zeroCells, hzs]
  have hzc2 : ∀ k, (Builtin.zeroCells z.cells k).toList.length = k := fun k => by rw [Array.length_toList, hzc]
  refine h w.heap.size _ (Builtin.zeroCells z.cells k).toList _ (Nat.le_refl _) (hzc2 k) ⟨by simp [hxl, hzc], .inr ⟨w.heap.size, _, _, rfl, Nat.le_refl _, heap_alloc_new w.drew _, hg1, hg2, ?_, ?_⟩⟩ ((Below.refl _ _).drew.alloc (Nat.le_refl _) _)
  · simp only [Array.size_append, hzc]
    simp [hxl]
    omega
  · rw [Nat.mul_one, Array.toList_append, Array.toList_append, List.take_append_of_le_length (by simp [hxl, hzc]), List.take_of_length_le (by simp [hxl, hzc])]
theorem at_cpy {xs : Array Operand} {ts : Array TypeId} (_ho : o.op = .call { callee := .builtin .copy, args := xs, argTypes := ts }) (h : wpList P ops Q (o :: rest) a w) : wpList P ops Q (o :: rest) a w := h
end
theorem isBlk.read {w : World} {g : Nat} {t : TypeId} {cs : Array Value} (h : isBlk w g t cs) (j : Nat) (v : Value) (hj : cs.toList[j]? = some v) : w.cell? ((⟨g, 0, none⟩ : Addr).add j) = some v := by
  rw [show (⟨g, 0, none⟩ : Addr).add j = ⟨g, j, none⟩ from by unfold Addr.add; split <;> simp_all, h.cell j]
  simpa using hj
theorem isBlk.one {w : World} {g : Nat} {t : TypeId} {u : Value} (h : isBlk w g t #[u]) : Cells w (some ⟨g, 0, none⟩) [u] := fun _ => ⟨g, 0, rfl, fun j v hj => by rw [Nat.zero_add, h.cell j]; simpa using hj⟩
theorem own_lower {w : World} {B B' n : Nat} {e : TypeId} {size : Nat} {v : Value} {xs : List Value} (h : w.ownsRow B e size v n xs) (hB : B' ≤ B) : w.ownsRow B' e size v n xs := by
  refine ⟨h.1, ?_⟩
  rcases h.2 with h | ⟨g, cap, cur, h1, h2, h3⟩
  · exact .inl h
  · exact .inr ⟨g, cap, cur, h1, Nat.le_trans hB h2, h3⟩
theorem below_lower {w w' : World} {B B' : Nat} (h : Below B w w') (hB : B' ≤ B) : Below B' w w' := ⟨h.os, h.tape, h.output, h.size, fun k hk => h.block k (Nat.lt_of_lt_of_le hk hB)⟩
theorem ins_grow (xs zs : List Value) (u : Value) (i : Nat) (hi : i ≤ xs.length) (hz : zs.length = xs.length + 1 - i) :
    (List.take (i + 1) ((xs.take i ++ zs).take i ++ [u] ++ (xs.take i ++ zs).drop (i + [u].length)) ++ xs.drop i ++ List.drop (i + 1 + (xs.drop i).length) ((xs.take i ++ zs).take i ++ [u] ++ (xs.take i ++ zs).drop (i + [u].length))) = xs.take i ++ u :: xs.drop i := by
  have hl : (xs.take i).length = i := by simp; omega
  have e1 : (xs.take i ++ zs).take i = xs.take i := by rw [List.take_append_of_le_length (by omega), List.take_of_length_le (by omega)]
  have e2 : ((xs.take i ++ [u]) : List Value).length = i + 1 := by simp; omega
  have e3 : List.drop (i + 1 + (xs.drop i).length) (xs.take i ++ [u] ++ (xs.take i ++ zs).drop (i + [u].length)) = [] := List.drop_eq_nil_of_le (by simp; omega)
  rw [e1, e3, List.append_nil, List.take_append_of_le_length (by omega), List.take_of_length_le (by omega), List.append_assoc]
  rfl
theorem ins_room (xs : List Value) (y u : Value) (i : Nat) (hi : i ≤ xs.length) :
    (List.take i (List.take (i + 1) (xs ++ [y]) ++ xs.drop i ++ List.drop (i + 1 + (xs.drop i).length) (xs ++ [y])) ++ [u] ++ List.drop (i + [u].length) (List.take (i + 1) (xs ++ [y]) ++ xs.drop i ++ List.drop (i + 1 + (xs.drop i).length) (xs ++ [y]))) = xs.take i ++ u :: xs.drop i := by
  have e0 : List.drop (i + 1 + (xs.drop i).length) (xs ++ [y]) = [] := List.drop_eq_nil_of_le (by simp; omega)
  have e1 : ((xs ++ [y]).take (i + 1)).length = i + 1 := by simp; omega
  have e2 : ((xs ++ [y]).take (i + 1)).take i = xs.take i := by rw [List.take_take, Nat.min_eq_left (by omega), List.take_append_of_le_length hi]
  rw [e0, List.append_nil, List.take_append_of_le_length (by omega), e2, List.append_assoc]
  congr 1
  rw [show i + [u].length = ((xs ++ [y]).take (i + 1)).length by rw [e1]; rfl, List.drop_left]
  rfl
end Go.Proofs.YtmlfnidckfeebaaGreatDoor
namespace Go.Proofs.YtmlfnidckfeebaaGreatDoor
open Go.RowKit
section
variable {P : Program} {md : Region.Mode} {ops : Array Oper} {S T : World → Prop}
def YieldsT (P : Program) (ops : Array Oper) (T : World → Prop) (o : Oper) (v : Value) (a : Act) : Prop :=
  (Region.wanted o (yielded ops a.tmps) = true ∧ ∀ w, T w → (execOp a.eval o).run P w = .ok (.value v) w) ∨ (Region.wanted o (yielded ops a.tmps) = false ∧ v = undef)
theorem YieldsT.of_same {o : Oper} {v : Value} {a a' : Act} (hy : YieldsT P ops T o v a) (he : execOp a'.eval o = execOp a.eval o)
    (hw : Region.wanted o (yielded ops a'.tmps) = Region.wanted o (yielded ops a.tmps)) : YieldsT P ops T o v a' := by
  unfold YieldsT at *
  rw [he, hw]
  exact hy
theorem YieldsT.wpOp {Q : Exit → Act → World → Prop} {i : Nat} {o : Oper} {v : Value} {a : Act} (hi : ops[i]? = some o) (hy : YieldsT P ops T o v a) {K : Act → World → Prop} {w : World} (hT : T w) (h : K (a.put o.dst v) w) : wpOp P ops Q i K a w := by
  unfold Go.wpOp
  simp only [hi]
  rcases hy with ⟨hw, hv⟩ | ⟨hw, rfl⟩
  · simp only [hw, if_true, Oper.wp, hv w hT, Oper.upon]; exact .inl h
  · simp only [hw, Bool.false_eq_true, if_false]; exact h
theorem wpOp_putT {Q : Exit → Act → World → Prop} {j : Nat} {oi oj : Oper} {v : Value} (hj : ops[j]? = some oj) (hap : oi.apart ops oj = true)
    (hsi : ∀ cs b, oi.op ≠ .select cs b) (hsj : ∀ cs b, oj.op ≠ .select cs b)
    (hQ : ∀ c a w, ¬ Q (.panic c) a w) {K : Act → World → Prop} {a : Act} {w : World}
    (hy : YieldsT P ops T oi v a) (h : wpOp P ops Q j K (a.put oi.dst v) w) :
    wpOp P ops Q j (fun a' w' => YieldsT P ops T oi v a' ∧ K (a'.put oi.dst v) w') a w := by
  obtain ⟨h1, h2, h3⟩ := Oper.apart_spec hap
  have keep : ∀ (a : Act), YieldsT P ops T oi v a → ∀ u, YieldsT P ops T oi v (a.put oj.dst u) := fun a hy u =>
    hy.of_same (execOp_put oi hsi a oj.dst u h3) (wanted_put oi a oj.dst u h3)
  have keepD : ∀ d, YieldsT P ops T oi v { a with defers := d :: a.defers } := fun d => hy.of_same rfl rfl
  have ev := execOp_put oj hsj a oi.dst v h1
  have wv := wanted_put oj a oi.dst v h1
  unfold wpOp at h ⊢
  simp only [hj, wv] at h ⊢
  by_cases hw : Region.wanted oj (yielded ops a.tmps) = true
  · rw [if_pos hw] at h ⊢
    rcases h with h | ⟨hasks, hlets⟩
    · left
      unfold Oper.wp at h ⊢
      rw [ev] at h
      generalize (execOp a.eval oj).run P w = r at h ⊢
      cases r with
      | ok n w' =>
        cases n with
        | value u => exact ⟨keep a hy u, by rw [← Act.put_comm a v u h2]; exact h⟩
        | skip => exact ⟨keep a hy _, by rw [← Act.put_comm a v undef h2]; exact h⟩
        | defer d =>
          refine ⟨keep _ (keepD d) _, ?_⟩
          rw [← Act.put_comm _ v undef h2, ← Act.put_defers]
          exact h
        | enter f args =>
          refine Calls.mono h fun e w'' he => ?_
          cases e with
          | returned u => exact ⟨keep a hy u, by rw [← Act.put_comm a v u h2]; exact he⟩
          | panicked c => exact absurd he (hQ _ _ _)
          | outgrown => exact he
        | row row args => exact Rows.mono h fun u w'' he => ⟨keep a hy u, by rw [← Act.put_comm a v u h2]; exact he⟩
        | _ => exact h
      | halt x w' =>
        cases x with
        | panic u => exact absurd h (hQ _ _ _)
        | _ => exact h
    · exact .inr ⟨by unfold Oper.asks at *; rw [ev] at hasks; exact hasks, hlets⟩
  · rw [if_neg hw] at h ⊢
    exact ⟨keep a hy _, by rw [← Act.put_comm a v undef h2]; exact h⟩
def wpAnyT (P : Program) (md : Region.Mode) (ops : Array Oper) (T : World → Prop) (m : Nat) (Q : Exit → Act → World → Prop) : Nat → Array Bool → Act → World → Prop
  | 0, listed, a, w => Region.ready md ops listed = [] ∧ Q .normal a w
  | fuel + 1, listed, a, w => (Region.ready md ops listed = [] → Q .normal a w) ∧
    ∀ i ∈ Region.ready md ops listed, wpOp P ops Q i (fun a' w' => (i < m → T w') ∧ wpAnyT P md ops T m Q fuel (listed.setIfInBounds i true) a' w') a w
theorem wpAny_of_T {m : Nat} {Q : Exit → Act → World → Prop} : ∀ (f : Nat) (listed : Array Bool) (a : Act) (w : World), wpAnyT P md ops T m Q f listed a w → wpAny P md ops Q f listed a w
  | 0, _, _, _, h => h
  | f + 1, _, _, _, h => ⟨h.1, fun i hi => wpOp_mono (fun a' w' hh => wpAny_of_T f _ a' w' hh.2) (h.2 i hi)⟩
theorem wpAnyT_first {m : Nat} {Q : Exit → Act → World → Prop} {i : Nat} {oi : Oper} {v : Value} (hi : ops[i]? = some oi) (hsel : ∀ (j : Nat) (o : Oper) cs b, ops[j]? = some o → o.op ≠ .select cs b)
    (hQ : ∀ c a w, ¬ Q (.panic c) a w) {I : Array Bool → Prop} (hI : ∀ listed j, I listed → j ∈ Region.ready md ops listed → j < m → I (listed.setIfInBounds j true))
    (hwm : ∀ listed, I listed → listed.getD i true = false → ∀ t, m ≤ t → t ∉ Region.ready md ops listed) :
    ∀ (fuel : Nat) (listed : Array Bool) (a : Act) (w : World), T w → I listed →
      (∀ j oj, ops[j]? = some oj → j ≠ i → listed.getD j true = false → (∀ e ∈ oj.after, Region.binds md e = true → e.on ≠ i) → oi.apart ops oj = true) →
      i ∈ Region.ready md ops listed → YieldsT P ops T oi v a →
      wpAnyT P md ops T m Q fuel (listed.setIfInBounds i true) (a.put oi.dst v) w → wpAnyT P md ops T m Q (fuel + 1) listed a w := by
  intro fuel
  induction fuel with
  | zero =>
    intro listed a w hT inv _ hr hy H
    refine ⟨fun h => (by rw [h] at hr; cases hr), fun j hj => ?_⟩
    by_cases hji : j = i
    · subst hji; exact hy.wpOp hi hT ⟨fun _ => hT, H⟩
    · have := ready_mono hj hji
      rw [H.1] at this
      cases this
  | succ fuel ih =>
    intro listed a w hT inv hfree hr hy H
    refine ⟨fun h => (by rw [h] at hr; cases hr), fun j hj => ?_⟩
    by_cases hji : j = i
    · subst hji; exact hy.wpOp hi hT ⟨fun _ => hT, H⟩
    · have h1 := H.2 j (ready_mono hj hji)
      have hun := (mem_ready.1 hr).1
      have hjm : j < m := by
        rcases Nat.lt_or_ge j m with h | h
        · exact h
        · exact absurd hj (hwm _ inv hun j h)
      obtain ⟨hjun, oj, hoj, hall⟩ := mem_ready.1 hj
      have hnot : ∀ e ∈ oj.after, Region.binds md e = true → e.on ≠ i := fun e he hb heq => by
        have h1 := hall e he hb
        rw [heq, getD_both hun] at h1
        cases h1
      have h2 := wpOp_putT hoj (hfree j oj hoj hji hjun hnot) (fun cs b => hsel i oi cs b hi) (fun cs b => hsel j oj cs b hoj) hQ hy h1
      have hfree' : ∀ k ok, ops[k]? = some ok → k ≠ i → (listed.setIfInBounds j true).getD k true = false →
          (∀ e ∈ ok.after, Region.binds md e = true → e.on ≠ i) → oi.apart ops ok = true := fun k ok hk hki hun hno => by
        refine hfree k ok hk hki ?_ hno
        by_cases hjk : j = k
        · subst hjk; exact hjun
        · rw [getD_set_ne true hjk] at hun; exact hun
      refine wpOp_mono (fun a' w' h3 => ⟨h3.2.1, ih (listed.setIfInBounds j true) a' w' (h3.2.1 hjm) (hI _ _ inv hj hjm) hfree' (ready_mono hr (Ne.symm hji)) h3.1 ?_⟩) h2
      rw [Array.setIfInBounds_comm _ _ hji]
      exact h3.2.2
theorem wpAnyT_of_seq {m : Nat} {Q : Exit → Act → World → Prop} : ∀ (l : List Oper) (k : Nat) (listed : Array Bool) (a : Act) (w : World), m ≤ k → (∀ j, l[j]? = ops[k + j]?) →
    Region.seqB md ops l.length k listed = true → wpList P ops Q l a w → wpAnyT P md ops T m Q l.length listed a w
  | [], _, _, _, _, _, _, hB, h => ⟨by simpa [Region.seqB] using hB, h⟩
  | o :: l, k, listed, a, w, hm, hl, hB, h => by
    have h0 : ops[k]? = some o := by simpa using (hl 0).symm
    simp only [List.length_cons, Region.seqB, Bool.and_eq_true, decide_eq_true_eq] at hB
    refine ⟨fun h1 => (by rw [hB.1] at h1; cases h1), fun i hi => ?_⟩
    rw [hB.1] at hi
    obtain rfl : i = k := by simpa using hi
    have hw : wpOp P ops Q i (wpList P ops Q l) a w := by unfold wpOp; simp only [h0]; exact h
    exact wpOp_mono (fun a' w' h' => ⟨fun hh => by omega, wpAnyT_of_seq l (i + 1) _ a' w' (by omega) (fun j => by have := hl (j + 1); simpa [Nat.add_assoc, Nat.add_comm 1 j] using this) hB.2 h'⟩) hw
theorem wpAnyT_of_headD {n g m : Nat} (hST : ∀ w, S w → T w) {L : Array Bool → Act → Prop} {Q' : Exit → Act → World → Prop} (hL : ∀ listed a w, L listed a → S w → wpAnyT P md ops T m Q' g listed a w) :
    ∀ (f : Nat) (listed : Array Bool) (a : Act) (w : World), S w → wpAnyLD P md ops S n L f listed a → wpAnyT P md ops T m Q' (f + g) listed a w
  | 0, listed, a, w, hS, h => by rw [Nat.zero_add]; exact hL _ _ _ h hS
  | f + 1, listed, a, w, hS, h => by
    rw [show f + 1 + g = (f + g) + 1 by omega]
    exact ⟨fun h0 => absurd h0 h.1, fun i hi => wpOp_of_dOp hS (fun a' w' h' hS' => ⟨fun _ => hST _ hS', wpAnyT_of_headD hST hL f _ a' w' hS' h'⟩) (h.2 i hi).2⟩
def wpFloatT (P : Program) (ops : Array Oper) (T : World → Prop) (Q : Act → Prop) : List Oper → Act → Prop
  | [], a => Q a
  | o :: rest, a => ∃ v, YieldsT P ops T o v a ∧ wpFloatT P ops T Q rest (a.put o.dst v)
theorem floatT_nil {Q : Act → Prop} {a : Act} (h : Q a) : wpFloatT P ops T Q [] a := h
theorem floatT_step {Q : Act → Prop} {a : Act} {o : Oper} {rest : List Oper} (h : ∀ K : Act → Prop, (∀ a, wpFloatT P ops T Q rest a → K a) → ∃ v, YieldsT P ops T o v a ∧ K (a.put o.dst v)) : wpFloatT P ops T Q (o :: rest) a :=
  h _ fun _ h => h
theorem floatT_mono {Q Q' : Act → Prop} (h : ∀ a, Q a → Q' a) : ∀ (l : List Oper) (a : Act), wpFloatT P ops T Q l a → wpFloatT P ops T Q' l a
  | [], a, hh => h a hh
  | _ :: l, _, ⟨v, hy, hK⟩ => ⟨v, hy, floatT_mono h l _ hK⟩
theorem wpAnyT_of_pre {n m g : Nat} {B : Array Bool → Bool} {Q : Exit → Act → World → Prop} (hQ : ∀ c a w, ¬ Q (.panic c) a w) (hsel : Region.noSelect ops = true) (hnm : n ≤ m) (hms : m < ops.size)
    (hwm : ∀ listed, HeadInv md ops m listed → ∀ i, i < m → listed.getD i true = false → ∀ t, m ≤ t → t ∉ Region.ready md ops listed) :
    ∀ (l : List Oper) (k : Nat) (listed : Array Bool) (a : Act) (w : World), (∀ j, j < l.length → l[j]? = ops[k + j]?) → k + l.length ≤ n → T w → HeadInv md ops n listed → HeadInv md ops m listed → (∀ j, j < k → listed.getD j false = true) → headB md ops B l.length k listed = true →
      wpFloatT P ops T (fun a => ∀ listed', HeadInv md ops n listed' → (∀ j, j < k + l.length → listed'.getD j false = true) → B listed' = true → wpAnyT P md ops T m Q g listed' a w) l a → wpAnyT P md ops T m Q (g + l.length) listed a w
  | [], k, listed, a, w, _, _, _, inv, _, hj, hB, h => h listed inv (by simpa using hj) (by simpa [headB] using hB)
  | o :: l, k, listed, a, w, hl, hk, hT, inv, inv2, hj, hB, h => by
    have h0 : ops[k]? = some o := by simpa using (hl 0 (by simp)).symm
    simp only [List.length_cons, headB, Bool.and_eq_true] at hB
    obtain ⟨⟨hr, hf⟩, hB'⟩ := hB
    have hkn : k < n := by simp only [List.length_cons] at hk; omega
    have hr' : k ∈ Region.ready md ops listed := by simpa using hr
    obtain ⟨v, hy, hK⟩ := h
    refine wpAnyT_first h0 (Region.noSelect_spec hsel) hQ (I := HeadInv md ops m) (fun ls j hi hr hj => hi.set hr hj) (fun ls hi hun t ht => hwm ls hi k (by omega) hun t ht) (g + l.length) listed a w hT inv2 (Region.free_spec h0 hf) hr' hy
      (wpAnyT_of_pre hQ hsel hnm hms hwm l (k + 1) _ _ w (fun j hj => by have := hl (j + 1) (by simp; omega); simpa [Nat.add_assoc, Nat.add_comm 1 j] using this) (by simp only [List.length_cons] at hk; omega) hT (inv.set hr' hkn) (inv2.set hr' (by omega)) (fun j hjk => ?_) hB' ?_)
    · by_cases e : k = j
      · subst e
        have : k < listed.size := by rw [inv.size]; omega
        simp [Array.getD, this]
      · exact getD_set_true (hj j (by omega))
    · simpa [Nat.add_assoc, Nat.add_comm 1 l.length] using hK
def lexPreTB (md : Region.Mode) (ops : Array Oper) (p n : Nat) : Bool :=
  lexPreB md ops p n && decide (n + 1 < ops.size) && sinkFrom md ops 0 (n + 1) && behindB md ops (n + 1)
def goesInto (P : Program) (ops : Array Oper) (T : World → Prop) (Q : Exit → Act → World → Prop) (rest : List Oper) (e : Exit) (a : Act) (w : World) : Prop := e = .normal ∧ T w ∧ wpList P ops (goesOn Q) rest a w
theorem wp_region_det_preT (S T : World → Prop) {id : Nat} {Q : Exit → Act → World → Prop} {a : Act} {w : World} {l : List Oper} (p n : Nat) (hST : ∀ w, S w → T w) (hm : P.follows .mixedOrders = true) (hB : lexPreTB .any l.toArray p n = true)
    (hS : S w.drew) (h : wpFloatT P l.toArray T (fun a => wpDet P l.toArray S (fun a' => ∀ w', S w' → wpList P l.toArray (goesInto P l.toArray T Q (l.drop (n + 1))) ((l.drop n).take 1) a' w') ((l.take n).drop p) a) (l.take p) a) : (Code.region id l.toArray true).wp P Q a w := by
  simp only [lexPreTB, lexPreB, Bool.and_eq_true, decide_eq_true_eq] at hB
  obtain ⟨⟨⟨⟨⟨⟨⟨⟨hsel, hpn⟩, hn⟩, hs⟩, hc⟩, hlex⟩, hn1⟩, hs1⟩, hc1⟩ := hB
  have hn' : n < l.length := by simpa using hn
  have hn1' : n + 1 < l.length := by simpa using hn1
  have hpl : (l.take p).length = p := by simp; omega
  have hml : ((l.take n).drop p).length = n - p := by simp; omega
  have hdl : (l.drop (n + 1)).length = l.toArray.size - (n + 1) := by simp
  have inv0 : ∀ k, HeadInv .any l.toArray k (Array.replicate l.toArray.size false) := fun k =>
    ⟨by simp, fun j oj _ hl => (by rw [getD_replicate_false] at hl; cases hl), fun t _ ht => getD_in (by simpa using ht) (getD_replicate_false _ _)⟩
  refine Code.wp_mono (Q := goesOn Q) (fun e a w h => by obtain ⟨rfl, h⟩ := h; exact h) (wp_region_any hm (wpAny_of_T (T := T) (m := n + 1) _ _ _ _ ?_))
  have pre := wpAnyT_of_pre (P := P) (T := T) (md := .any) (ops := l.toArray) (n := n) (m := n + 1) (g := (n - p) + (l.toArray.size - n)) (B := fun l1 => headB .any l.toArray (Region.seqB .any l.toArray (l.toArray.size - n) n) (n - p) p l1) (Q := goesOn Q) (fun c a w h => by cases h.1) hsel (by omega) hn1
    (fun ls hi i hin hun t ht => tail_waits3 hs1 hc1 hn1 hi _ i rfl (Nat.zero_le _) hin hun t ht)
    (l.take p) 0 _ a w.drew (fun j hj => by have hj' : j < p := by rw [hpl] at hj; exact hj
                                            simp [hj']) (by rw [hpl]; omega) (hST _ hS) (inv0 n) (inv0 (n + 1)) (fun j hj => absurd hj (Nat.not_lt_zero j)) (by rw [hpl]; exact hlex) ?_
  · rw [hpl, show (n - p) + (l.toArray.size - n) + p = l.toArray.size by omega] at pre
    exact pre
  · refine floatT_mono (fun a' hK => ?_) _ _ h
    intro listed' inv' hj' hB'
    have H := wpAnyLD_lexI (P := P) (S := S) (md := .any) (ops := l.toArray) (n := n) (I := fun ls => HeadInv .any l.toArray n ls ∧ ∀ j, j < p → ls.getD j false = true)
      (fun ls j hi hr hj => ⟨hi.1.set hr hj, fun i hi' => getD_set_true (hi.2 i hi')⟩)
      (B := Region.seqB .any l.toArray (l.toArray.size - n) n) (fun listed h => seqB_ready h) hsel
      (fun ls hi i hin hun t ht => by
        rcases Nat.lt_or_ge i p with hip | hip
        · have h1 := hi.2 i hip
          rw [getD_both hun] at h1; cases h1
        · exact tail_waits3 hs hc (by simpa using hn') hi.1 _ i rfl hip hin hun t ht)
      ((l.take n).drop p) p listed' a' (fun j hj => by
        have hj' : j < n - p := by rw [hml] at hj; exact hj
        simp [List.getElem?_drop, show p + j < n by omega]) (by rw [hml]; omega) ⟨inv', fun j hj => hj' j (by rw [hpl]; omega)⟩ (by rw [hml]; exact hB') hK
    have key := wpAnyT_of_headD (P := P) (S := S) (T := T) (md := .any) (ops := l.toArray) (m := n + 1) (Q' := goesOn Q) (g := l.toArray.size - n) hST (fun listed a' w' hL hS' => by
      have hh := hL.2 w' hS'
      have hB1 := hL.1
      have h0 : l.toArray[n]? = some l[n] := by simp [hn']
      rw [show (l.drop n).take 1 = [l[n]] by rw [List.drop_eq_getElem_cons hn']; rfl] at hh
      rw [show l.toArray.size - n = (l.toArray.size - (n + 1)) + 1 by omega] at hB1 ⊢
      simp only [Region.seqB, Bool.and_eq_true, decide_eq_true_eq] at hB1
      refine ⟨fun h1 => (by rw [hB1.1] at h1; cases h1), fun i hi => ?_⟩
      rw [hB1.1] at hi
      obtain rfl : i = n := by simpa using hi
      have hw : wpOp P l.toArray (goesOn Q) i (fun a' w' => T w' ∧ wpList P l.toArray (goesOn Q) (l.drop (i + 1)) a' w') a' w' := by
        unfold wpOp
        simp only [h0]
        unfold wpList at hh
        by_cases hwt : Region.wanted l[i] (yielded l.toArray a'.tmps) = true
        · rw [if_pos hwt] at hh ⊢
          rcases hh with hh | ⟨_, hh⟩
          · left
            unfold Oper.wp at hh ⊢
            generalize (execOp a'.eval l[i]).run P w' = r at hh ⊢
            cases r with
            | ok x w2 =>
              cases x with
              | value u => exact hh.2
              | skip => exact hh.2
              | defer d => exact hh.2
              | enter f args =>
                refine Calls.mono hh fun e w3 he => ?_
                cases e with
                | returned u => exact he.2
                | panicked c => cases he.1
                | outgrown => obtain ⟨_, _, h, _⟩ := he; cases h
              | row row args => exact Rows.mono hh fun u w3 he => he.2
              | _ => exact hh
            | halt x w2 =>
              cases x with
              | panic u => cases hh.1
              | _ => exact hh
          · obtain ⟨_, _, h, _⟩ := hh; cases h
        · rw [if_neg hwt] at hh ⊢
          exact hh.2
      exact wpOp_mono (fun a2 w2 h' => ⟨fun _ => h'.1, by
        have := wpAnyT_of_seq (P := P) (T := T) (md := .any) (ops := l.toArray) (m := i + 1) (Q := goesOn Q) (l.drop (i + 1)) (i + 1) (listed.setIfInBounds i true) a2 w2 (Nat.le_refl _) (fun j => by simp [List.getElem?_drop]) (by rw [hdl]; exact hB1.2) h'.2
        rwa [hdl] at this⟩) hw) _ _ _ _ hS H
    rw [hml] at key
    exact key
end
namespace Sp
inductive T where
  | mk (leaf : List Ver) (kids : List (Bs × T))
namespace T
def leaf : T → List Ver | mk l _ => l
def kids : T → List (Bs × T) | mk _ k => k
def nil : T := mk [] []
end T
abbrev PE := List Bs × List Ver
mutual
def entries : T → List PE
  | .mk leaf kids => (if leaf = [] then [] else [([], leaf)]) ++ entriesL kids
def entriesL : List (Bs × T) → List PE
  | [] => []
  | (n, t) :: r => (entries t).map (fun e => (n :: e.1, e.2)) ++ entriesL r
end
mutual
/-- The node. -/
def nodeT : T → Node
  | .mk leaf kids => (leaf, kidsT kids)
def kidsT : List (Bs × T) → List Kid
  | [] => []
  | (n, t) :: r => (n, nsum (nodeT t)) :: kidsT r
end
mutual
/-- What is seen of it. -/
def showT : T → T
  | .mk leaf kids => .mk (live leaf) (showL kids)
def showL : List (Bs × T) → List (Bs × T)
  | [] => []
  | (n, t) :: r => if entries (showT t) = [] then showL r else (n, showT t) :: showL r
end
mutual
/-- How many paths have versions. -/
def sizeT : T → Nat
  | .mk leaf kids => (if leaf = [] then 0 else 1) + sizeL kids
def sizeL : List (Bs × T) → Nat
  | [] => 0
  | (_, t) :: r => sizeT t + sizeL r
end
mutual
theorem sizeT_len : ∀ t, sizeT t = (entries t).length
  | .mk leaf kids => by
    rw [sizeT, entries, List.length_append, sizeL_len kids]
    split <;> rfl
theorem sizeL_len : ∀ k, sizeL k = (entriesL k).length
  | [] => rfl
  | (n, t) :: r => by rw [sizeL, entriesL, List.length_append, List.length_map, sizeT_len t, sizeL_len r]
end
mutual
/-- What holds of every tree that is made: names that rise, kids that have something, leaves and names that may be. -/
def Ok : T → Prop
  | .mk leaf kids => (leaf ≠ [] → Sp.leaf leaf = 0) ∧ (kids.map (·.1)).Pairwise (fun a b => Op.bytesLess a b = true) ∧ OkL kids
def OkL : List (Bs × T) → Prop
  | [] => True
  | (n, t) :: r => name n = true ∧ entries t ≠ [] ∧ Ok t ∧ OkL r
end
def kept (leaf : List Ver) (kids : List (Bs × T)) : Option T := if leaf = [] ∧ kids = [] then none else some (.mk leaf kids)
def kid (kids : List (Bs × T)) (n : Bs) : Option T := match kids with
  | [] => none
  | (m, t) :: r => if m = n then some t else kid r n
def putO (n : Bs) : Option T → List (Bs × T) → List (Bs × T)
  | none, r => r
  | some t, r => (n, t) :: r
def upd : List (Bs × T) → Bs → Option T → List (Bs × T)
  | [], n, o => putO n o []
  | (m, s) :: r, n, o => if m = n then putO n o r else if Op.bytesLess m n then (m, s) :: upd r n o else putO n o ((m, s) :: r)
def withO : Option T → List Bs → List Ver → Option T
  | x, [], l => kept l (x.getD .nil).kids
  | x, p :: ps, l => kept (x.getD .nil).leaf (upd (x.getD .nil).kids p (withO (kid (x.getD .nil).kids p) ps l))
def entriesO : Option T → List PE
  | none => []
  | some t => entries t
def cmpP : List Bs → List Bs → Int
  | [], [] => 0
  | [], _ :: _ => -1
  | _ :: _, [] => 1
  | a :: l, b :: m => if a = b then cmpP l m else Lib.compareBytes a b
def compare (s t : Bs) : Int := cmpP (split s) (split t)
theorem cmpB_range : ∀ (a b : Bs), Lib.compareBytes a b = -1 ∨ Lib.compareBytes a b = 0 ∨ Lib.compareBytes a b = 1
  | [], [] => .inr (.inl rfl)
  | [], _ :: _ => .inl rfl
  | _ :: _, [] => .inr (.inr rfl)
  | a :: l, b :: m => by
    unfold Lib.compareBytes
    split
    · simp
    · split
      · simp
      · exact cmpB_range l m
theorem cmpB_eq : ∀ (a b : Bs), Lib.compareBytes a b = 0 ↔ a = b
  | [], [] => by simp [Lib.compareBytes]
  | [], _ :: _ => by simp [Lib.compareBytes]
  | _ :: _, [] => by simp [Lib.compareBytes]
  | a :: l, b :: m => by
    unfold Lib.compareBytes
    split
    · rename_i h; simp; rintro rfl; exact absurd h (UInt8.lt_irrefl _)
    · split
      · rename_i h; simp; rintro rfl; exact absurd h (UInt8.lt_irrefl _)
      · rename_i h1 h2
        have : a = b := UInt8.le_antisymm (UInt8.not_lt.1 h2) (UInt8.not_lt.1 h1)
        rw [cmpB_eq l m, List.cons.injEq]; simp [this]
theorem cmpP_range : ∀ (l m : List Bs), cmpP l m = -1 ∨ cmpP l m = 0 ∨ cmpP l m = 1
  | [], [] => .inr (.inl rfl)
  | [], _ :: _ => .inl rfl
  | _ :: _, [] => .inr (.inr rfl)
  | a :: l, b :: m => by
    unfold cmpP
    split
    · exact cmpP_range l m
    · exact cmpB_range a b
end Sp
set_option maxRecDepth 100000 in
set_option maxHeartbeats 2000000 in
theorem pcheck_calls (s : ByteArray) (w : World) (hsh : ∃ m, w.cell? ⟨1, 0, none⟩ = some (.int .i64 m)) :
    Calls Tryz.prog 104 #[.string s] w fun e w' => e = .returned (.int .i64 (Sp.check s.data.toList)) ∧ Below w.heap.size w w' := by
  obtain ⟨n, hn⟩ : ∃ n, n = (Sp.parts s.data.toList).length := ⟨_, rfl⟩
  have P := Lib.hid (show Calls Tryz.prog 112 #[.string s] w fun e w' => ∃ A cap, e = .returned (.slice A n cap) ∧ Below w.heap.size w w' from (parts_calls s w hsh).mono (by
    rintro e w1 ⟨hb1, (⟨h0, rfl⟩ | ⟨g, cap, L, hl0, hlc, rfl, hL, hS, hg⟩)⟩
    · rw [h0] at hn; subst hn; exact ⟨_, _, rfl, hb1⟩
    · rw [← hL, List.length_map] at hn; subst hn; exact ⟨_, _, rfl, hb1⟩))
  have hdl : s.data.toList.length = s.size := by simp
  clear hsh
  by_cases h51 : 51 < s.size
  · have F := Lib.hid (show Sp.check s.data.toList = 2 by unfold Sp.check; rw [hdl, if_pos h51])
    have e1 : decide ((51 : Int) < (s.size : Int)) = true := by rw [decide_eq_true_iff]; omega
    clear hdl
    go_enter Tryz.func104, Tryz.ntmps104
    go_wp2_with fail
    go_ret
    exact ⟨by rw [F.out]; rfl, Below.refl _ _⟩
  · have F := Lib.hid (show Sp.check s.data.toList = if n = 0 then 1 else 0 by unfold Sp.check; rw [hdl, if_neg h51, hn])
    have e1 : decide ((51 : Int) < (s.size : Int)) = false := by rw [decide_eq_false_iff_not]; omega
    clear hdl hn
    by_cases h0 : n = 0
    · rw [if_pos h0] at F
      have b0 : ((n : Int) == 0) = true := by rw [h0]; rfl
      clear h0
      go_enter Tryz.func104, Tryz.ntmps104
      go_wp2_with (go_at_call 112; refine P.out.mono ?_; rintro e w1 ⟨A, cap, rfl, hb1⟩)
      go_ret
      exact ⟨by rw [F.out]; rfl, hb1⟩
    · rw [if_neg h0] at F
      have b0 : ((n : Int) == 0) = false := by rw [beq_eq_false_iff_ne]; omega
      clear h0
      go_enter Tryz.func104, Tryz.ntmps104
      go_wp2_with (go_at_call 112; refine P.out.mono ?_; rintro e w1 ⟨A, cap, rfl, hb1⟩)
      go_ret
      exact ⟨by rw [F.out]; rfl, hb1⟩
namespace Sp
theorem less_cmp : ∀ (a b : Bs), Op.bytesLess a b = true ↔ Lib.compareBytes a b = -1
  | [], [] => by simp [Op.bytesLess, Lib.compareBytes]
  | [], _ :: _ => by simp [Op.bytesLess, Lib.compareBytes]
  | _ :: _, [] => by simp [Op.bytesLess, Lib.compareBytes]
  | a :: l, b :: m => by
    have ih := less_cmp l m
    unfold Op.bytesLess Lib.compareBytes
    by_cases h1 : a < b
    · simp [h1]
    · by_cases h2 : b < a
      · have : ¬ a = b := by rintro rfl; exact h1 h2
        simp [h1, h2, this]
      · have : a = b := UInt8.le_antisymm (UInt8.not_lt.1 h2) (UInt8.not_lt.1 h1)
        subst this
        simp [ih]
theorem cmp_swap : ∀ (a b : Bs), Lib.compareBytes a b = - Lib.compareBytes b a
  | [], [] => by simp [Lib.compareBytes]
  | [], _ :: _ => by simp [Lib.compareBytes]
  | _ :: _, [] => by simp [Lib.compareBytes]
  | a :: l, b :: m => by
    have ih := cmp_swap l m
    unfold Lib.compareBytes
    by_cases h1 : a < b
    · have h2 : ¬ b < a := fun h => UInt8.lt_asymm h1 h
      simp [h1, h2]
    · by_cases h2 : b < a
      · simp [h1, h2]
      · simp [h1, h2, ih]
def setE : List PE → List Bs → List Ver → List PE
  | [], ps, l => if l = [] then [] else [(ps, l)]
  | (q, m) :: r, ps, l => if q = ps then (if l = [] then r else (ps, l) :: r)
    else if cmpP ps q < 0 then (if l = [] then (q, m) :: r else (ps, l) :: (q, m) :: r) else (q, m) :: setE r ps l
theorem entriesL_ne : ∀ (k : List (Bs × T)), ∀ e ∈ entriesL k, ∃ n q, e.1 = n :: q ∧ n ∈ k.map (·.1)
  | [], e, h => by cases h
  | (n, t) :: r, e, h => by
    rw [entriesL] at h
    rcases List.mem_append.1 h with h | h
    · obtain ⟨x, _, rfl⟩ := List.mem_map.1 h
      exact ⟨n, x.1, rfl, by simp⟩
    · obtain ⟨m, q, h1, h2⟩ := entriesL_ne r e h
      exact ⟨m, q, h1, by simp only [List.map_cons, List.mem_cons]; exact .inr h2⟩
theorem setE_map (p : Bs) (ps : List Bs) (l : List Ver) (R : List PE) (hR : ∀ e ∈ R, ∃ n q, e.1 = n :: q ∧ Op.bytesLess p n = true) : ∀ (E : List PE),
    setE (E.map (fun e => (p :: e.1, e.2)) ++ R) (p :: ps) l = (setE E ps l).map (fun e => (p :: e.1, e.2)) ++ R
  | [] => by
    cases R with
    | nil => simp only [List.map_nil, List.append_nil, setE]; split <;> simp
    | cons e r =>
      obtain ⟨n, q, h1, h2⟩ := hR e (List.mem_cons_self ..)
      obtain ⟨e1, e2⟩ := e
      cases h1
      have hne : ¬ n = p := by rintro rfl; rw [less_cmp, (cmpB_eq n n).2 rfl] at h2; cases h2
      have hc : cmpP (p :: ps) (n :: q) = -1 := by rw [cmpP, if_neg (fun h => hne h.symm)]; exact (less_cmp p n).1 h2
      simp only [List.map_nil, List.nil_append, setE]
      rw [if_neg (by simp [hne]), if_pos (by rw [hc]; decide)]
      split <;> simp
  | (q, m) :: r => by
    have ih := setE_map p ps l R hR r
    simp only [List.map_cons, List.cons_append, setE]
    have hc : cmpP (p :: ps) (p :: q) = cmpP ps q := by rw [cmpP, if_pos rfl]
    by_cases h1 : q = ps
    · subst h1
      rw [if_pos rfl, if_pos rfl]
      split <;> simp
    · rw [if_neg (by simp [h1]), if_neg h1, hc]
      split
      · split <;> simp
      · rw [ih]; simp
theorem setE_skip (p m : Bs) (ps : List Bs) (l : List Ver) (R : List PE) (hm : Op.bytesLess m p = true) : ∀ (E : List PE),
    setE (E.map (fun e => (m :: e.1, e.2)) ++ R) (p :: ps) l = E.map (fun e => (m :: e.1, e.2)) ++ setE R (p :: ps) l
  | [] => rfl
  | (q, v) :: r => by
    have ih := setE_skip p m ps l R hm r
    have hne : ¬ m = p := by rintro rfl; rw [less_cmp, (cmpB_eq m m).2 rfl] at hm; cases hm
    have hc : cmpP (p :: ps) (m :: q) = 1 := by rw [cmpP, if_neg (fun h => hne h.symm), cmp_swap, (less_cmp m p).1 hm]; rfl
    simp only [List.map_cons, List.cons_append, setE]
    rw [if_neg (by simp [hne]), if_neg (by rw [hc]; decide), ih]
theorem less_trans {a b c : Bs} (h1 : Op.bytesLess a b = true) (h2 : Op.bytesLess b c = true) : Op.bytesLess a c = true := by
  induction a generalizing b c with
  | nil => cases b with
    | nil => simp [Op.bytesLess] at h1
    | cons y b => cases c with
      | nil => simp [Op.bytesLess] at h2
      | cons z c => simp [Op.bytesLess]
  | cons x a ih => cases b with
    | nil => simp [Op.bytesLess] at h1
    | cons y b => cases c with
      | nil => simp [Op.bytesLess] at h2
      | cons z c =>
        simp only [Op.bytesLess, Bool.or_eq_true, decide_eq_true_eq, Bool.and_eq_true, beq_iff_eq] at *
        rcases h1 with h1 | ⟨rfl, h1⟩
        · rcases h2 with h2 | ⟨rfl, h2⟩
          · exact .inl (UInt8.lt_trans h1 h2)
          · exact .inl h1
        · rcases h2 with h2 | ⟨rfl, h2⟩
          · exact .inl h2
          · exact .inr ⟨rfl, ih h1 h2⟩
theorem less_irr (a : Bs) : Op.bytesLess a a = false := by
  rw [Bool.eq_false_iff]; intro h; rw [less_cmp, (cmpB_eq a a).2 rfl] at h; cases h
theorem less_other {a b : Bs} (h1 : ¬ a = b) (h2 : ¬ Op.bytesLess a b = true) : Op.bytesLess b a = true := by
  rw [less_cmp] at *
  rcases cmpB_range a b with h | h | h
  · exact absurd h h2
  · exact absurd ((cmpB_eq a b).1 h) h1
  · rw [cmp_swap, h]
def Rise (k : List (Bs × T)) : Prop := (k.map (·.1)).Pairwise (fun a b => Op.bytesLess a b = true)
theorem kid_none (k : List (Bs × T)) (p : Bs) (h : ∀ n ∈ k.map (·.1), Op.bytesLess p n = true) : kid k p = none := by
  induction k with
  | nil => rfl
  | cons x r ih =>
    obtain ⟨m, t⟩ := x
    have hm := h m (by simp)
    have hne : ¬ m = p := by rintro rfl; rw [less_irr] at hm; cases hm
    rw [kid, if_neg hne]
    exact ih (fun n hn => h n (by simp only [List.map_cons, List.mem_cons]; exact .inr hn))
theorem upd_entries (p : Bs) (ps : List Bs) (l : List Ver) : ∀ (k : List (Bs × T)), Rise k → OkL k → (o : Option T) → entriesO o = setE (entriesO (kid k p)) ps l → entriesL (upd k p o) = setE (entriesL k) (p :: ps) l
  | [], _, _, o, ho => by
    rw [show entriesO (kid [] p) = [] from rfl] at ho
    cases o with
    | none =>
      rw [show entriesO none = [] from rfl, setE] at ho
      rw [upd, putO, entriesL, setE]
      by_cases hl : l = []
      · rw [if_pos hl]
      · rw [if_neg hl] at ho; cases ho
    | some t =>
      rw [show entriesO (some t) = entries t from rfl, setE] at ho
      rw [upd, putO, show entriesL [(p, t)] = (entries t).map (fun e => (p :: e.1, e.2)) ++ [] from by rw [entriesL, entriesL], ho, entriesL, setE]
      split <;> simp
  | (m, s) :: r, hr, hk, o, ho => by
    obtain ⟨hr1, hr2⟩ := List.pairwise_cons.1 hr
    rw [OkL] at hk
    obtain ⟨_, hs, _, hk'⟩ := hk
    have hR : ∀ q, (∀ n ∈ r.map (·.1), Op.bytesLess q n = true) → ∀ e ∈ entriesL r, ∃ n x, e.1 = n :: x ∧ Op.bytesLess q n = true := fun q hq e he => by
      obtain ⟨n, x, h1, h2⟩ := entriesL_ne r e he
      exact ⟨n, x, h1, hq n h2⟩
    by_cases h1 : m = p
    · subst h1
      rw [show kid ((m, s) :: r) m = some s by rw [kid, if_pos rfl]] at ho
      rw [entriesL, setE_map m ps l _ (hR m hr1), upd, if_pos rfl]
      rw [show entriesO (some s) = entries s from rfl] at ho
      rw [← ho]
      cases o with
      | none => rfl
      | some t => rfl
    · rw [show kid ((m, s) :: r) p = kid r p by rw [kid, if_neg h1]] at ho
      by_cases h2 : Op.bytesLess m p = true
      · rw [upd, if_neg h1, if_pos h2, entriesL, entriesL, setE_skip p m ps l _ h2, upd_entries p ps l r hr2 hk' o ho]
      · have h3 := less_other h1 h2
        have hn : kid r p = none := kid_none r p (fun n hn => less_trans h3 (hr1 n hn))
        rw [hn, show entriesO none = [] from rfl] at ho
        rw [upd, if_neg h1, if_neg h2]
        have hR2 : ∀ e ∈ entriesL ((m, s) :: r), ∃ n x, e.1 = n :: x ∧ Op.bytesLess p n = true := fun e he => by
          obtain ⟨n, x, h1, h2⟩ := entriesL_ne _ e he
          refine ⟨n, x, h1, ?_⟩
          rcases List.mem_cons.1 h2 with rfl | h2
          · exact h3
          · exact less_trans h3 (hr1 n h2)
        have hM := setE_map p ps l (entriesL ((m, s) :: r)) hR2 []
        rw [List.map_nil, List.nil_append, ← ho] at hM
        rw [hM]
        cases o with
        | none => rfl
        | some t => rfl
theorem setE_root (l : List Ver) (k : List (Bs × T)) (leaf : List Ver) : setE ((if leaf = [] then [] else [([], leaf)]) ++ entriesL k) [] l = (if l = [] then [] else [([], l)]) ++ entriesL k := by
  by_cases h : leaf = []
  · rw [if_pos h, List.nil_append]
    cases hE : entriesL k with
    | nil => rw [setE, List.append_nil]
    | cons e r =>
      obtain ⟨n, q, h1, _⟩ := entriesL_ne k e (by rw [hE]; exact List.mem_cons_self ..)
      obtain ⟨e1, e2⟩ := e
      cases h1
      rw [setE, if_neg (by simp), if_pos (by rw [cmpP]; decide)]
      split <;> simp
  · rw [if_neg h, List.cons_append, List.nil_append, setE, if_pos rfl]
    split <;> simp
theorem setE_below (p : Bs) (ps : List Bs) (l leaf : List Ver) (E : List PE) : setE ((if leaf = [] then [] else [([], leaf)]) ++ E) (p :: ps) l = (if leaf = [] then [] else [([], leaf)]) ++ setE E (p :: ps) l := by
  split
  · rfl
  · rw [List.cons_append, List.nil_append, setE, if_neg (by simp), if_neg (by rw [cmpP]; decide)]
    rfl
theorem kept_entries (leaf : List Ver) (k : List (Bs × T)) : entriesO (kept leaf k) = (if leaf = [] then [] else [([], leaf)]) ++ entriesL k := by
  unfold kept
  split
  · rename_i h; rw [h.1, h.2]; rfl
  · rw [entriesO, entries]
theorem kid_ok : ∀ (k : List (Bs × T)) (p : Bs) (t : T), OkL k → kid k p = some t → Ok t
  | [], _, _, _, h => by cases h
  | (m, s) :: r, p, t, hk, h => by
    rw [OkL] at hk
    rw [kid] at h
    split at h
    · cases h; exact hk.2.2.1
    · exact kid_ok r p t hk.2.2.2 h
theorem with_entries : ∀ (ps : List Bs) (l : List Ver) (x : Option T), (∀ t, x = some t → Ok t) → entriesO (withO x ps l) = setE (entriesO x) ps l
  | [], l, x, _ => by
    rw [withO, kept_entries]
    cases x with
    | none => rw [show entriesO none = (if ([] : List Ver) = [] then [] else [([], [])]) ++ entriesL [] from rfl, setE_root]; rfl
    | some t => cases t with
      | mk leaf k => rw [show entriesO (some (T.mk leaf k)) = entries (.mk leaf k) from rfl, entries, setE_root]; rfl
  | p :: ps, l, x, hx => by
    rw [withO, kept_entries]
    cases x with
    | none =>
      have ih := with_entries ps l none (by intro t h; cases h)
      rw [show entriesO none = (if ([] : List Ver) = [] then [] else [([], [])]) ++ entriesL [] from rfl, setE_below]
      congr 1
      exact upd_entries p ps l [] List.Pairwise.nil trivial _ ih
    | some t => cases t with
      | mk leaf k =>
        have ho := hx _ rfl
        rw [Ok] at ho
        have ih := with_entries ps l (kid k p) (fun t h => kid_ok k p t ho.2.2 h)
        rw [show entriesO (some (T.mk leaf k)) = entries (.mk leaf k) from rfl, entries, setE_below]
        congr 1
        exact upd_entries p ps l k ho.2.1 ho.2.2 _ ih
end Sp
end Go.Proofs.YtmlfnidckfeebaaGreatDoor
