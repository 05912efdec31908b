/- Trees, plain: trees of one root's digest are the same, or two unlike nodes of them have one digest; a tree's entries tell the tree. Trees, plain: what TreeApart says. An append of cells, and where the row lies then: where it lay, or in a new block. -/
import Derived.Test.YtmlkachfahabnaaGreatDoorTA39
import Derived.Test.YtmlkachfahabnaaGreatDoorTA45
import Derived.Test.YtmlkachfahabnaaGreatDoorTA37
import Derived.Test.YtmlkachfahabnaaGreatDoorTA33
import Derived.Test.YtmlkachfahabnaaGreatDoorTA08
namespace Go.Proofs.YtmlkachfahabnaaGreatDoor
open Go.RowKit
namespace Sp
/-! What may be written is written. -/
theorem wput_ok {s : Bs} {x : W} (h : x.2 = 0) : (wput true s x).2 = 0 := by
  unfold wput
  rw [if_neg (by simpa using h)]; rfl
theorem wnum_ok {n : Int} {x : W} (h : x.2 = 0) (h0 : 0 ≤ n) (h1 : n ≤ 1073741824) : (wnum n x).2 = 0 := by
  unfold wnum
  rw [decide_eq_true ⟨h0, h1⟩]
  exact wput_ok h
theorem wtext_ok {s : Bs} {x : W} (h : x.2 = 0) (h0 : s.length ≤ 65536) : (wtext s x).2 = 0 := by
  unfold wtext
  rw [decide_eq_true h0]
  exact wput_ok h
theorem wdots_ok : ∀ (l : List Dot) (x : W), x.2 = 0 → (∀ d ∈ l, dot d = 0) → (wdots l x).2 = 0
  | [], _, h, _ => h
  | d :: r, x, h, hd => by
    have h1 := dot_ok.1 (hd d (List.mem_cons_self ..))
    exact wdots_ok r (wdot d x) (wnum_ok (wnum_ok h h1.1 (by omega)) (by omega) (by omega)) fun y hy => hd y (List.mem_cons_of_mem _ hy)
theorem wvec_ok {v : List Dot} {x : W} (h : x.2 = 0) (hv : vcheck v = 0) : (wvec v x).2 = 0 := by
  unfold wvec
  rw [if_neg (by simpa using hv)]
  have hl := vcheck_len hv
  refine wdots_ok v _ (wnum_ok h (by omega) (by omega)) fun d hd => ?_
  exact (((vgo_ok v (-1)).1 hv).1 d hd).1
theorem wver_ok {v : Ver} {x : W} (h : x.2 = 0) (hv : vercheck v = 0) : (wver v x).2 = 0 := by
  obtain ⟨h1, h2, _, h4, _⟩ := vercheck_ok hv
  have h5 := dot_ok.1 h1
  unfold wver
  exact wtext_ok (wput_ok (wvec_ok (wnum_ok (wnum_ok h h5.1 (by omega)) (by omega) (by omega)) h2)) (by omega)
theorem wvers_ok : ∀ (l : List Ver) (x : W), x.2 = 0 → (∀ v ∈ l, vercheck v = 0) → (wvers l x).2 = 0
  | [], _, h, _ => h
  | v :: r, x, h, hv => wvers_ok r (wver v x) (wver_ok h (hv v (List.mem_cons_self ..))) fun y hy => hv y (List.mem_cons_of_mem _ hy)
theorem wleaf_ok {l : List Ver} {x : W} (h : x.2 = 0) (hl : leaf l = 0) : (wleaf l x).2 = 0 := by
  unfold wleaf
  rw [if_neg (by simpa using hl)]
  have h1 := leaf_ok hl
  exact wvers_ok l _ (wnum_ok h (by omega) (by omega)) (lgo_vers l none h1.2.1)
theorem wkids_ok : ∀ (l : List Kid) (x : W), x.2 = 0 → (∀ k ∈ l, k.1.length ≤ 65536) → (wkids l x).2 = 0
  | [], _, h, _ => h
  | k :: r, x, h, hk => wkids_ok r (wkid k x) (wput_ok (wtext_ok h (hk k (List.mem_cons_self ..)))) fun y hy => hk y (List.mem_cons_of_mem _ hy)
theorem kgo_zero : ∀ (l : List Kid) (p : Option Bs), (∀ k ∈ l, name k.1 = true) → (l.map (·.1)).Pairwise (fun a b => Op.bytesLess a b = true) → (∀ q, p = some q → ∀ k ∈ l, Op.bytesLess q k.1 = true) → kgo p l = 0
  | [], _, _, _, _ => rfl
  | k :: r, p, hn, hr, hp => by
    rw [List.map_cons, List.pairwise_cons] at hr
    rw [kgo, if_neg (by rw [hn k (List.mem_cons_self ..)]; simp), if_neg ?_]
    · exact kgo_zero r (some k.1) (fun x hx => hn x (List.mem_cons_of_mem _ hx)) hr.2 fun q hq x hx => by
        obtain rfl := Option.some.inj hq
        exact hr.1 x.1 (List.mem_map.2 ⟨x, hx, rfl⟩)
    · cases p with
      | none => simp
      | some q =>
        have h1 := hp q rfl k (List.mem_cons_self ..)
        intro h
        simp only [Option.any_some, le, Bool.or_eq_true, beq_iff_eq] at h
        rcases h with h | h
        · have := less_trans h1 h
          rw [less_irr] at this; cases this
        · rw [h, less_irr] at h1; cases h1
theorem okL_names : ∀ (k : List (Bs × T)), OkL k → ∀ x ∈ k, name x.1 = true ∧ Ok x.2 ∧ entries x.2 ≠ []
  | (n, t) :: r, h, x, hx => by
    rcases List.mem_cons.1 hx with rfl | hx
    · exact ⟨h.1, h.2.2.1, h.2.1⟩
    · exact okL_names r h.2.2.2 x hx
theorem kids_few : ∀ (k : List (Bs × T)), OkL k → k.length ≤ sizeL k
  | [], _ => Nat.le_refl _
  | (n, t) :: r, h => by
    have h1 := kids_few r h.2.2.2
    have h2 : 0 < sizeT t := by rw [sizeT_len]; exact List.length_pos_iff.2 h.2.1
    rw [sizeL, List.length_cons]; omega
theorem kidsT_eq : ∀ (k : List (Bs × T)), kidsT k = k.map fun x => (x.1, nsum (nodeT x.2))
  | [] => rfl
  | (n, t) :: r => by rw [kidsT, kidsT_eq r]; rfl
/-- The node of a tree has bytes. -/
theorem node_writes : ∀ t : T, Ok t → sizeT t ≤ 128 → (nbytes (nodeT t)).2 = 0
  | .mk lf k, h, hs => by
    obtain ⟨h1, h2, h3⟩ := h
    have hl : leaf lf = 0 := by
      by_cases h0 : lf = []
      · rw [h0]; rfl
      · exact h1 h0
    have hk := kids_few k h3
    rw [sizeT] at hs
    have hn : ∀ x ∈ kidsT k, name x.1 = true := fun x hx => by
      rw [kidsT_eq] at hx
      obtain ⟨y, hy, rfl⟩ := List.mem_map.1 hx
      exact (okL_names k h3 y hy).1
    have hm : (kidsT k).map (·.1) = k.map (·.1) := by rw [kidsT_eq, List.map_map]; rfl
    have hc : ncheck (nodeT (.mk lf k)) = 0 := by
      unfold ncheck
      rw [nodeT, if_neg (by simpa using hl)]
      unfold kcheck
      rw [if_neg (by simp only [kidsT_eq, List.length_map]; omega)]
      exact kgo_zero _ none hn (by rw [hm]; exact h2) fun q hq => by cases hq
    unfold nbytes
    rw [if_neg (by simpa using hc)]
    have : (wnode (nodeT (.mk lf k))).2 = 0 := by
      unfold wnode
      rw [nodeT]
      refine wkids_ok _ _ (wnum_ok (wleaf_ok rfl hl) (by omega) ?_) fun x hx => Nat.le_trans (name_len (hn x hx)) (by decide)
      simp only [kidsT_eq, List.length_map]
      omega
    unfold wdone
    rw [if_pos this]
mutual
/-- The bytes of all nodes of a tree. -/
def textsT : T → List Bs
  | .mk lf k => (nbytes (nodeT (.mk lf k))).1 :: textsL k
def textsL : List (Bs × T) → List Bs
  | [] => []
  | (_, t) :: r => textsT t ++ textsL r
end
theorem kidsT_32 (k : List (Bs × T)) : ∀ x ∈ kidsT k, x.2.length = 32 := fun x hx => by
  rw [kidsT_eq] at hx
  obtain ⟨y, _, rfl⟩ := List.mem_map.1 hx
  exact nsum_len _
mutual
/-- Trees of one digest are the same, where unlike bytes of their nodes have unlike digests. -/
theorem tree_eq : ∀ (t u : T), Ok t → Ok u → sizeT t ≤ 128 → sizeT u ≤ 128 → (∀ x ∈ textsT t, ∀ y ∈ textsT u, sha x = sha y → x = y) → nsum (nodeT t) = nsum (nodeT u) → t = u
  | .mk lf k, .mk lf' k', ht, hu, st, su, hc, h => by
    have wt := node_writes _ ht st
    have wu := node_writes _ hu su
    unfold nsum at h
    rw [if_neg (by simpa using wt), if_neg (by simpa using wu)] at h
    have hb := hc _ (by rw [textsT]; exact List.mem_cons_self ..) _ (by rw [textsT]; exact List.mem_cons_self ..) h
    have hn := nbytes_inj wt wu (by rw [nodeT]; exact kidsT_32 k) (by rw [nodeT]; exact kidsT_32 k') hb
    rw [nodeT, nodeT, Prod.mk.injEq] at hn
    rw [hn.1, kids_eq k k' ht.2.2 hu.2.2 (by rw [sizeT] at st; omega) (by rw [sizeT] at su; omega) (fun x hx y hy => hc x (by rw [textsT]; exact List.mem_cons_of_mem _ hx) y (by rw [textsT]; exact List.mem_cons_of_mem _ hy)) hn.2]
theorem kids_eq : ∀ (k k' : List (Bs × T)), OkL k → OkL k' → sizeL k ≤ 128 → sizeL k' ≤ 128 → (∀ x ∈ textsL k, ∀ y ∈ textsL k', sha x = sha y → x = y) → kidsT k = kidsT k' → k = k'
  | [], [], _, _, _, _, _, _ => rfl
  | [], (_, _) :: _, _, _, _, _, _, h => by rw [kidsT, kidsT] at h; cases h
  | (_, _) :: _, [], _, _, _, _, _, h => by rw [kidsT, kidsT] at h; cases h
  | (n, t) :: r, (n', t') :: r', hk, hk', sk, sk', hc, h => by
    rw [kidsT, kidsT, List.cons.injEq, Prod.mk.injEq] at h
    obtain ⟨⟨rfl, h1⟩, h2⟩ := h
    rw [sizeL] at sk sk'
    rw [tree_eq t t' hk.2.2.1 hk'.2.2.1 (by omega) (by omega) (fun x hx y hy => hc x (by rw [textsL]; exact List.mem_append_left _ hx) y (by rw [textsL]; exact List.mem_append_left _ hy)) h1,
      kids_eq r r' hk.2.2.2 hk'.2.2.2 (by omega) (by omega) (fun x hx y hy => hc x (by rw [textsL]; exact List.mem_append_right _ hx) y (by rw [textsL]; exact List.mem_append_right _ hy)) h2]
end
mutual
/-- A tree's entries tell the tree. -/
theorem entries_inj : ∀ (t u : T), Ok t → Ok u → entries t = entries u → t = u
  | .mk lf k, .mk lf' k', ht, hu, h => by
    have h1 : lf = lf' := by rw [← get0_entries lf k, h, get0_entries lf' k']
    have h2 : k.map (·.1) = k'.map (·.1) := by rw [← namesE_entries lf k ht.2.1 ht.2.2, h, namesE_entries lf' k' hu.2.1 hu.2.2]
    rw [h1, kids_inj k k' ht.2.2 hu.2.2 h2 fun i hi hi' => by
      have h3 := sub1_entries k[i].1 lf k ht.2.1
      have h4 := sub1_entries k[i].1 lf' k' hu.2.1
      have h5 : k[i].1 = k'[i].1 := by
        have := congrArg (fun l => l[i]?) h2
        simp only [List.getElem?_map, List.getElem?_eq_getElem hi, List.getElem?_eq_getElem hi', Option.map_some, Option.some.injEq] at this
        exact this
      rw [kid_at k i hi ht.2.1] at h3
      rw [h5, kid_at k' i hi' hu.2.1] at h4
      rw [h5, h, h4] at h3
      exact h3.symm]
theorem kids_inj : ∀ (k k' : List (Bs × T)), OkL k → OkL k' → k.map (·.1) = k'.map (·.1) → (∀ i (h : i < k.length) (h' : i < k'.length), entries k[i].2 = entries k'[i].2) → k = k'
  | [], [], _, _, _, _ => rfl
  | [], _ :: _, _, _, h, _ => by cases h
  | _ :: _, [], _, _, h, _ => by cases h
  | (n, t) :: r, (n', t') :: r', hk, hk', h, he => by
    rw [List.map_cons, List.map_cons, List.cons.injEq] at h
    obtain ⟨h1, h2⟩ := h
    simp only at h1
    subst h1
    rw [entries_inj t t' hk.2.2.1 hk'.2.2.1 (he 0 (by simp) (by simp)), kids_inj r r' hk.2.2.2 hk'.2.2.2 h2 fun i hi hi' => he (i + 1) (by simpa using hi) (by simpa using hi')]
end
/-- Have two unlike texts one digest? -/
def clashS (l : List Bs) : Bool := (List.range l.length).any fun i => (List.range i).any fun k => decide (sha (l.getD k []) = sha (l.getD i [])) && decide (l.getD k [] ≠ l.getD i [])
theorem clash_no {A B : List Bs} (h : clashS (A ++ B) = false) : ∀ x ∈ A, ∀ y ∈ B, sha x = sha y → x = y := by
  intro x hx y hy hs
  apply Decidable.byContradiction
  intro hne
  obtain ⟨i, hi, rfl⟩ := List.getElem_of_mem hx
  obtain ⟨j, hj, rfl⟩ := List.getElem_of_mem hy
  have : clashS (A ++ B) = true := by
    unfold clashS
    refine List.any_eq_true.2 ⟨A.length + j, List.mem_range.2 (by rw [List.length_append]; omega), List.any_eq_true.2 ⟨i, List.mem_range.2 (by omega), ?_⟩⟩
    have e1 : (A ++ B).getD i [] = A[i] := by rw [List.getD_eq_getElem?_getD, List.getElem?_append_left hi, List.getElem?_eq_getElem hi]; rfl
    have e2 : (A ++ B).getD (A.length + j) [] = B[j] := by rw [List.getD_eq_getElem?_getD, List.getElem?_append_right (by omega), Nat.add_sub_cancel_left, List.getElem?_eq_getElem hj]; rfl
    rw [e1, e2]
    simp only [Bool.and_eq_true, decide_eq_true_eq]
    exact ⟨hs, hne⟩
  rw [this] at h
  cases h
end Sp
end Go.Proofs.YtmlkachfahabnaaGreatDoor
namespace Go.Proofs.YtmlkachfahabnaaGreatDoor
open Go.RowKit
namespace Sp
/-- What is put into a tree, and into the document's list. -/
structure Pair (o : Option T) (m : List DE) : Prop where
  go : GoodO o
  gm : GoodM m
  eq : toP m = entriesO o
theorem pair_of (l : List DE) : Pair (ofT none l).1 (rof [] l).1 := ⟨ofT_good l none good_none, rof_good l [] goodM_nil, (of_both l none [] rfl good_none).2⟩
theorem Pair.told {o : Option T} {m : List DE} (h : Pair o m) : Sp.told o = m := told_eq h.eq
theorem Pair.ok {o : Option T} {m : List DE} (h : Pair o m) : Ok (o.getD .nil) := getD_ok h.go.1
theorem Pair.size {o : Option T} {m : List DE} (h : Pair o m) : sizeT (o.getD .nil) ≤ 128 := by
  rw [sizeT_len, entries_getD]; exact h.go.2
theorem Pair.ent {o : Option T} {m : List DE} (h : Pair o m) : toP m = entries (o.getD .nil) := by rw [entries_getD]; exact h.eq
theorem toP_inj : ∀ (m n : List DE), toP m = toP n → m = n
  | [], [], _ => rfl
  | [], _ :: _, h => by cases h
  | _ :: _, [], h => by cases h
  | e :: m, f :: n, h => by
    unfold toP at h
    rw [List.map_cons, List.map_cons, List.cons.injEq, Prod.mk.injEq] at h
    obtain ⟨⟨h1, h2⟩, h3⟩ := h
    have h4 : e.1 = f.1 := by rw [← join_split e.1, h1, join_split]
    rw [toP_inj m n h3, Prod.ext h4 h2]
theorem seen_same {oa ob : Option T} {ma mb : List DE} (A : Pair oa ma) (B : Pair ob mb) (h : shownM ma = shownM mb) : nsum (nodeT (showT (oa.getD .nil))) = nsum (nodeT (showT (ob.getD .nil))) := by
  obtain ⟨_, a2, _, a4⟩ := shown_both A.eq A.go A.gm
  obtain ⟨_, b2, _, b4⟩ := shown_both B.eq B.go B.gm
  rw [entries_inj _ _ a2 b2 (by rw [← a4, ← b4, h])]
theorem root_clash {oa ob : Option T} {ma mb : List DE} (A : Pair oa ma) (B : Pair ob mb) (h : nsum (nodeT (oa.getD .nil)) = nsum (nodeT (ob.getD .nil))) (hne : ma ≠ mb) : clashS (textsT (oa.getD .nil) ++ textsT (ob.getD .nil)) = true := by
  cases hc : clashS (textsT (oa.getD .nil) ++ textsT (ob.getD .nil)) with
  | true => rfl
  | false =>
    have := tree_eq _ _ A.ok B.ok A.size B.size (clash_no hc) h
    exact absurd (toP_inj _ _ (by rw [A.ent, B.ent, this])) hne
theorem seen_clash {oa ob : Option T} {ma mb : List DE} (A : Pair oa ma) (B : Pair ob mb) (h : nsum (nodeT (showT (oa.getD .nil))) = nsum (nodeT (showT (ob.getD .nil)))) (hne : shownM ma ≠ shownM mb) : clashS (textsT (showT (oa.getD .nil)) ++ textsT (showT (ob.getD .nil))) = true := by
  obtain ⟨_, a2, a3, a4⟩ := shown_both A.eq A.go A.gm
  obtain ⟨_, b2, b3, b4⟩ := shown_both B.eq B.go B.gm
  cases hc : clashS (textsT (showT (oa.getD .nil)) ++ textsT (showT (ob.getD .nil))) with
  | true => rfl
  | false =>
    have := tree_eq _ _ a2 b2 a3 b3 (clash_no hc) h
    exact absurd (toP_inj _ _ (by rw [a4, b4, this])) hne
/-! How many nodes a tree has. -/
def depths (E : List PE) : Nat := (E.map fun e => e.1.length).sum
theorem depths_app (E F : List PE) : depths (E ++ F) = depths E + depths F := by unfold depths; rw [List.map_append, List.sum_append]
theorem depths_down (n : Bs) : ∀ E : List PE, depths (E.map fun e => (n :: e.1, e.2)) = E.length + depths E
  | [] => rfl
  | e :: r => by
    have := depths_down n r
    unfold depths at *
    simp only [List.map_cons, List.sum_cons, List.length_cons] at this ⊢
    omega
mutual
theorem texts_len : ∀ t : T, Ok t → (textsT t).length ≤ 1 + depths (entries t)
  | .mk lf k, h => by
    have := textsL_len k h.2.2
    rw [textsT, List.length_cons, entries, depths_app]
    omega
theorem textsL_len : ∀ k : List (Bs × T), OkL k → (textsL k).length ≤ depths (entriesL k)
  | [], _ => Nat.le_refl _
  | (n, t) :: r, h => by
    have h1 := texts_len t h.2.2.1
    have h2 := textsL_len r h.2.2.2
    have h3 := List.length_pos_iff.2 h.2.1
    rw [textsL, List.length_append, entriesL, depths_app, depths_down]
    omega
end
theorem depths_le : ∀ E : List PE, (∀ e ∈ E, e.1.length ≤ 4) → depths E ≤ E.length * 4
  | [], _ => Nat.le_refl _
  | e :: r, h => by
    have h1 := depths_le r fun x hx => h x (List.mem_cons_of_mem _ hx)
    have h2 := h e (List.mem_cons_self ..)
    unfold depths at *
    rw [List.map_cons, List.sum_cons, List.length_cons]; omega
theorem texts_few {t : T} {m : List DE} (ht : Ok t) (hm : GoodM m) (h : toP m = entries t) : (textsT t).length ≤ 513 := by
  have h1 := texts_len t ht
  have h2 := depths_le (entries t) fun e he => by
    rw [← h] at he
    obtain ⟨x, hx, rfl⟩ := List.mem_map.1 he
    exact (check_parts (hm.1 x hx)).2.2.1
  have h3 : (entries t).length ≤ 128 := by rw [← h, toP_len]; exact hm.2
  omega
end Sp
end Go.Proofs.YtmlkachfahabnaaGreatDoor
namespace Go.Proofs.YtmlkachfahabnaaGreatDoor
open Go.RowKit
section
variable {P : Program} {ops : Array Oper} {rest : List Oper} {o : Oper} {a : Act} {Q : Exit → Act → World → Prop} {w : World}
theorem app_where {t e : TypeId} {size bytes : Nat} (hst : AppStat P t e size bytes) (hgd : o.guard = none) (s x : Operand) (ho : o.op = .call { callee := .builtin .append, args := #[s, x], argTypes := #[t, t] })
    (base : Nat) (v : Value) (n : Nat) (xs : List Value) (hs : a.eval s = v) (hown : w.ownsRow base e size v n xs) (gx ox m c : Nat) (news : List Value)
    (hx : a.eval x = .slice (some ⟨gx, ox, none⟩) m c) (hm : 0 < m) (hl : news.length = m * size) (hX : ∀ j u, news[j]? = some u → w.cell? ⟨gx, ox + j, none⟩ = some u) (h1 : ∀ u ∈ news, u.oneCell' = true) (hcap : (n + m) * bytes ≤ 140737488355328) (hbase : base ≤ w.heap.size)
    (h : ∀ v' w', w'.ownsRow base e size v' (n + m) (xs ++ news) → w.grownBy w' v.ownBlock → Below base w w' → (v'.ownBlock = v.ownBlock ∨ ∃ k, w.heap.size ≤ k ∧ v'.ownBlock = some k) → wpList P ops Q rest (a.put o.dst v') w') : wpList P ops Q (o :: rest) a w := by
  obtain ⟨ht, hz0, hb0, i, z, hi, hz, hsz, hby, hzs⟩ := hst
  have hmax : n + m ≤ maxLen := by
    have : n + m ≤ (n + m) * bytes := Nat.le_mul_of_pos_right _ hb0
    unfold maxLen; omega
  have hX' : ∀ j u, news[j]? = some u → w.cell? ((⟨gx, ox, none⟩ : Addr).add j) = some u := fun j u hj => by
    have := hX j u hj
    cases j <;> simpa [Addr.add] using this
  obtain ⟨v', w', hrun, hown', hg, _⟩ := run_append_own w base t o.type e i z size bytes ht hi hz hsz hby hzs hz0 v n xs hown ⟨gx, ox, none⟩ m c news hl hX' h1 hmax hcap hbase
  have hm2 : n + m ≤ 9223372036854775807 := by unfold maxLen at hmax; omega
  have hw : v'.ownBlock = v.ownBlock ∨ ∃ k, w.heap.size ≤ k ∧ v'.ownBlock = some k := by
    rcases hown.2 with ⟨rfl, rfl⟩ | ⟨g, cap, cur, rfl, _, hgg, hnc, _, hcs, _⟩
    · rw [Nat.zero_add] at hcap
      have hr := run_append_nil (P := P) w t o.type e i z ht hi hz ⟨gx, ox, none⟩ m c news (by rw [hsz]; exact hl) hX' hm (by omega) (by rw [hby]; omega)
      rw [hr] at hrun
      cases hrun
      exact .inr ⟨_, Nat.le_refl _, rfl⟩
    · by_cases hroom : n + m ≤ cap
      · have hr := run_append_room (P := P) w t o.type e i ht hi g n cap cur hgg ⟨gx, ox, none⟩ m c news (by rw [hsz]; exact hl) hX' h1 hroom (by rw [hl, hcs, hsz, ← Nat.add_mul]; exact Nat.mul_le_mul_right _ hroom)
        rw [hr] at hrun
        cases hrun
        exact .inl rfl
      · have hr := run_append_grow (P := P) w t o.type e i z ht hi hz ⟨g, 0, none⟩ n cap xs (by rw [hsz]; exact hown.1) (hown.cells (g := g) rfl) ⟨gx, ox, none⟩ m c news (by rw [hsz]; exact hl) hX' (by omega) (by omega) (by rw [hby]; exact growslice_fits (by omega) hcap)
        rw [hr] at hrun
        cases hrun
        exact .inr ⟨_, Nat.le_refl _, rfl⟩
  refine Lib.wpList_append_run w hgd s x t t ho v _ hs hx v' w' hrun (h v' w' hown' hg ((Below.refl _ _).grown hg hbase fun k hk => ?_) hw)
  exact (hown.lt k hk).1
end
end Go.Proofs.YtmlkachfahabnaaGreatDoor
