/- Walks: the document's node of a directory is the tree's. What is found in a tree is what the document's list has there: plain. Walks: texts that are the same; the first path behind a text; what holds of a tree and the document's list. An append of cells, and where the row lies then: where it lay, or in a new block. A law for a region that draws its order, by a plan: each next operation is the only one that may come, or tells one value in every world of a kind T, so that it may as well come now. Deltas: what the document says is opened, and where leaves differ. Deltas, plain: what is opened by the nodes of two trees is what the document opens. -/
import Derived.Test.YtmlfnidckfeebaaGreatDoorP021
import Derived.Test.YtmlfnidckfeebaaGreatDoorP029
namespace Go.Proofs.YtmlfnidckfeebaaGreatDoor
open Go.RowKit Go.Shelf
theorem rnode_calls (m : List Sp.DE) (hm : Sp.GoodM m) (A : Option Addr) (cap : Nat) : ∀ (f : Nat) (d : Sp.Bs) (s : Sp.T) (w : World), 5 ≤ (Sp.parts d).length + f → Sp.Dir d → Sp.Ok s → Sp.sizeT s ≤ 200 → Sp.subs (Sp.toP m) (Sp.parts d) = Sp.entries s → EntsAt w A m → KeysAt w 0 →
    Calls Tryz.prog 149 #[.slice A m.length cap, .string (strOf d)] w fun e w' => ∃ A2 c2 B2 c3, e = .returned (nodeV A2 s.leaf.length c2 B2 s.kids.length c3) ∧ Vers w' A2 s.leaf ∧ Kids w' B2 (Sp.nodeT s).2 ∧ Ext w w'
  | 0, d, s, w, hf, _, _, _, _, _, _ => by have := Sp.parts_len d; omega
  | f + 1, d, s, w, hf, hd, hok, hsz, hsub, hE, K =>
    rnode_step m hm A cap d hd (Nat.le_trans (dir_len hd) (by decide)) s hok hsz hsub (fun i h w2 hE2 K2 => by
      obtain ⟨k1, k2, k3, k4⟩ := Sp.kid_dir hm hd hok hsub i h
      refine rnode_calls m hm A cap f (Sp.down d (s.kids[i]).1) (s.kids[i]).2 w2 ?_ k1 k4 ?_ k3 hE2 K2
      · rw [k2, List.length_append]
        show 5 ≤ (Sp.parts d).length + 1 + f
        omega
      · have h1 := Sp.kid_size s.kids (s.kids[i]).1 (s.kids[i]).2 (Sp.kid_at s.kids i h (ok_rise hok).1)
        have h2 := Sp.sizeT_n0 s
        omega) w hE K
end Go.Proofs.YtmlfnidckfeebaaGreatDoor
namespace Go.Proofs.YtmlfnidckfeebaaGreatDoor
open Go.RowKit
section
variable {P : Program} {ops : Array Oper} {T : World → Prop}
theorem floatT_no' {a : Act} {o : Oper} {K : Act → Prop} (hw : Region.wanted o (yielded ops a.tmps) = false) (h : K (a.put o.dst undef)) : ∃ v, YieldsT P ops T o v a ∧ K (a.put o.dst v) := ⟨undef, .inr ⟨hw, rfl⟩, h⟩
end
namespace Sp
end Sp
end Go.Proofs.YtmlfnidckfeebaaGreatDoor
namespace Go.Proofs.YtmlfnidckfeebaaGreatDoor
open Go.RowKit Go.Shelf
attribute [local go_sem] yUpon strOf_toList
namespace Sp
theorem Both.paths {o : Option T} {m : List DE} (h : Both o m) : ∀ e ∈ Sp.told o, check e.1 = 0 := by rw [h.told]; exact h.gm.1
end Sp
end Go.Proofs.YtmlfnidckfeebaaGreatDoor
namespace Go.Proofs.YtmlfnidckfeebaaGreatDoor
open Go.RowKit
section
variable {P : Program} {ops : Array Oper} {rest : List Oper} {o : Oper} {a : Act} {Q : Exit → Act → World → Prop} {w : World}
theorem app_where {t e : TypeId} {size bytes : Nat} (hst : AppStat P t e size bytes) (hgd : o.guard = none) (s x : Operand) (ho : o.op = .call { callee := .builtin .append, args := #[s, x], argTypes := #[t, t] })
    (base : Nat) (v : Value) (n : Nat) (xs : List Value) (hs : a.eval s = v) (hown : w.ownsRow base e size v n xs) (gx ox m c : Nat) (news : List Value)
    (hx : a.eval x = .slice (some ⟨gx, ox, none⟩) m c) (hm : 0 < m) (hl : news.length = m * size) (hX : ∀ j u, news[j]? = some u → w.cell? ⟨gx, ox + j, none⟩ = some u) (h1 : ∀ u ∈ news, u.oneCell' = true) (hcap : (n + m) * bytes ≤ 140737488355328) (hbase : base ≤ w.heap.size)
    (h : ∀ v' w', w'.ownsRow base e size v' (n + m) (xs ++ news) → w.grownBy w' v.ownBlock → Below base w w' → (v'.ownBlock = v.ownBlock ∨ ∃ k, w.heap.size ≤ k ∧ v'.ownBlock = some k) → wpList P ops Q rest (a.put o.dst v') w') : wpList P ops Q (o :: rest) a w := by
  obtain ⟨ht, hz0, hb0, i, z, hi, hz, hsz, hby, hzs⟩ := hst
  have hmax : n + m ≤ maxLen := by
    have : n + m ≤ (n + m) * bytes := Nat.le_mul_of_pos_right _ hb0
    unfold maxLen; omega
  have hX' : ∀ j u, news[j]? = some u → w.cell? ((⟨gx, ox, none⟩ : Addr).add j) = some u := fun j u hj => by
    have := hX j u hj
    cases j <;> simpa [Addr.add] using this
  obtain ⟨v', w', hrun, hown', hg, _⟩ := run_append_own w base t o.type e i z size bytes ht hi hz hsz hby hzs hz0 v n xs hown ⟨gx, ox, none⟩ m c news hl hX' h1 hmax hcap hbase
  have hm2 : n + m ≤ 9223372036854775807 := by unfold maxLen at hmax; omega
  have hw : v'.ownBlock = v.ownBlock ∨ ∃ k, w.heap.size ≤ k ∧ v'.ownBlock = some k := by
    rcases hown.2 with ⟨rfl, rfl⟩ | ⟨g, cap, cur, rfl, _, hgg, hnc, _, hcs, _⟩
    · rw [Nat.zero_add] at hcap
      have hr := run_append_nil (P := P) w t o.type e i z ht hi hz ⟨gx, ox, none⟩ m c news (by rw [hsz]; exact hl) hX' hm (by omega) (by rw [hby]; omega)
      rw [hr] at hrun
      cases hrun
      exact .inr ⟨_, Nat.le_refl _, rfl⟩
    · by_cases hroom : n + m ≤ cap
      · have hr := run_append_room (P := P) w t o.type e i ht hi g n cap cur hgg ⟨gx, ox, none⟩ m c news (by rw [hsz]; exact hl) hX' h1 hroom (by rw [hl, hcs, hsz, ← Nat.add_mul]; exact Nat.mul_le_mul_right _ hroom)
        rw [hr] at hrun
        cases hrun
        exact .inl rfl
      · have hr := run_append_grow (P := P) w t o.type e i z ht hi hz ⟨g, 0, none⟩ n cap xs (by rw [hsz]; exact hown.1) (hown.cells (g := g) rfl) ⟨gx, ox, none⟩ m c news (by rw [hsz]; exact hl) hX' (by omega) (by omega) (by rw [hby]; exact growslice_fits (by omega) hcap)
        rw [hr] at hrun
        cases hrun
        exact .inr ⟨_, Nat.le_refl _, rfl⟩
  refine Lib.wpList_append_run w hgd s x t t ho v _ hs hx v' w' hrun (h v' w' hown' hg ((Below.refl _ _).grown hg hbase fun k hk => ?_) hw)
  exact (hown.lt k hk).1
end
end Go.Proofs.YtmlfnidckfeebaaGreatDoor
namespace Go.Proofs.YtmlfnidckfeebaaGreatDoor
open Go.RowKit
section
variable {P : Program} {md : Region.Mode} {ops : Array Oper} {T : World → Prop}
def planB (md : Region.Mode) (ops : Array Oper) (m : Nat) (B : Array Bool → Bool) : List (Bool × Nat) → Array Bool → Bool
  | [], listed => B listed
  | (true, k) :: r, listed => decide (k < m) && (Region.ready md ops listed).contains k && Region.free md ops listed k && planB md ops m B r (listed.setIfInBounds k true)
  | (false, k) :: r, listed => decide (k < m) && decide (Region.ready md ops listed = [k]) && planB md ops m B r (listed.setIfInBounds k true)
def lexPlanB (md : Region.Mode) (ops : Array Oper) (m : Nat) (plan : List (Bool × Nat)) : Bool :=
  Region.noSelect ops && decide (m < ops.size) && decide (plan.length = m) && sinkFrom md ops 0 m && behindB md ops m && planB md ops m (Region.seqB md ops (ops.size - m) m) plan (Array.replicate ops.size false)
def wpPlanT (P : Program) (ops : Array Oper) (T : World → Prop) (Q : Exit → Act → World → Prop) (tl : List Oper) : List (Bool × Nat) → Act → World → Prop
  | [], a, w => wpList P ops (goesOn Q) tl a w
  | (true, k) :: r, a, w => ∃ o v, ops[k]? = some o ∧ YieldsT P ops T o v a ∧ wpPlanT P ops T Q tl r (a.put o.dst v) w
  | (false, k) :: r, a, w => ∃ o, ops[k]? = some o ∧ wpList P ops (fun e a w => e = .normal ∧ T w ∧ wpPlanT P ops T Q tl r a w) [o] a w
theorem plan_nil {Q : Exit → Act → World → Prop} {tl : List Oper} {a : Act} {w : World} (h : wpList P ops (goesOn Q) tl a w) : wpPlanT P ops T Q tl [] a w := h
theorem plan_float {Q : Exit → Act → World → Prop} {tl : List Oper} {k : Nat} {r : List (Bool × Nat)} {a : Act} {w : World} {o : Oper} (h0 : ops[k]? = some o)
    (h : ∀ K : Act → Prop, (∀ a, wpPlanT P ops T Q tl r a w → K a) → ∃ v, YieldsT P ops T o v a ∧ K (a.put o.dst v)) : wpPlanT P ops T Q tl ((true, k) :: r) a w := by
  obtain ⟨v, h1, h2⟩ := h _ fun _ h => h
  exact ⟨o, v, h0, h1, h2⟩
theorem plan_only {Q : Exit → Act → World → Prop} {tl : List Oper} {k : Nat} {r : List (Bool × Nat)} {a : Act} {w : World} {o : Oper} (h0 : ops[k]? = some o)
    (h : ∀ Q' : Exit → Act → World → Prop, (∀ a w, T w → wpPlanT P ops T Q tl r a w → Q' .normal a w) → wpList P ops Q' [o] a w) : wpPlanT P ops T Q tl ((false, k) :: r) a w :=
  ⟨o, h0, h _ fun _ _ h1 h2 => ⟨rfl, h1, h2⟩⟩
theorem wpAnyT_of_plan {m : Nat} {Q : Exit → Act → World → Prop} (hsel : Region.noSelect ops = true) (hs : sinkFrom md ops 0 m = true) (hc : behindB md ops m = true) (hms : m < ops.size) (tl : List Oper) (htl : ∀ j, tl[j]? = ops[m + j]?) :
    ∀ (plan : List (Bool × Nat)) (listed : Array Bool) (a : Act) (w : World), T w → HeadInv md ops m listed →
      planB md ops m (Region.seqB md ops tl.length m) plan listed = true → wpPlanT P ops T Q tl plan a w → wpAnyT P md ops T m (goesOn Q) (plan.length + tl.length) listed a w
  | [], listed, a, w, _, _, hB, h => by
    rw [List.length_nil, Nat.zero_add]
    exact wpAnyT_of_seq tl m listed a w (Nat.le_refl _) htl hB h
  | (true, k) :: r, listed, a, w, hT, inv, hB, h => by
    obtain ⟨o, v, h0, hy, hK⟩ := h
    simp only [planB, Bool.and_eq_true, decide_eq_true_eq] at hB
    obtain ⟨⟨⟨hk, hr⟩, hf⟩, hB'⟩ := hB
    have hr' : k ∈ Region.ready md ops listed := by simpa using hr
    rw [List.length_cons, show r.length + 1 + tl.length = (r.length + tl.length) + 1 by omega]
    exact wpAnyT_first h0 (Region.noSelect_spec hsel) (fun c a w h => by cases h.1) (I := HeadInv md ops m) (fun listed j inv hj hjm => inv.set hj hjm)
      (fun listed inv hun t ht => tail_waits3 hs hc hms inv _ k rfl (Nat.zero_le _) hk hun t ht) (r.length + tl.length) listed a w hT inv (Region.free_spec h0 hf) hr' hy
      (wpAnyT_of_plan hsel hs hc hms tl htl r _ _ w hT (inv.set hr' hk) hB' hK)
  | (false, k) :: r, listed, a, w, hT, inv, hB, h => by
    obtain ⟨o, h0, hK⟩ := h
    simp only [planB, Bool.and_eq_true, decide_eq_true_eq] at hB
    obtain ⟨⟨hk, hr⟩, hB'⟩ := hB
    have hr' : k ∈ Region.ready md ops listed := by rw [hr]; exact List.mem_singleton.2 rfl
    rw [List.length_cons, show r.length + 1 + tl.length = (r.length + tl.length) + 1 by omega]
    refine ⟨fun h1 => (by rw [hr] at h1; cases h1), fun i hi => ?_⟩
    rw [hr] at hi
    obtain rfl : i = k := by simpa using hi
    exact wpOp_of_one h0 (fun e a w h => h.1) (fun a2 w2 h2 => ⟨fun _ => h2.2.1, wpAnyT_of_plan hsel hs hc hms tl htl r _ a2 w2 h2.2.1 (inv.set hr' hk) hB' h2.2.2⟩) hK
/-- The first m operations by a plan; then a tail in its own order. -/
theorem wp_region_planT (T : World → Prop) {id : Nat} {Q : Exit → Act → World → Prop} {a : Act} {w : World} {l : List Oper} (m : Nat) (plan : List (Bool × Nat)) (hm : P.follows .mixedOrders = true) (hB : lexPlanB .any l.toArray m plan = true)
    (hT : T w.drew) (h : wpPlanT P l.toArray T Q (l.drop m) plan a w.drew) : (Code.region id l.toArray true).wp P Q a w := by
  simp only [lexPlanB, Bool.and_eq_true, decide_eq_true_eq] at hB
  obtain ⟨⟨⟨⟨⟨hsel, hms⟩, hpl⟩, hs⟩, hc⟩, hlex⟩ := hB
  have hms' : m < l.length := by simpa using hms
  have hdl : (l.drop m).length = l.toArray.size - m := by simp
  refine Code.wp_mono (Q := goesOn Q) (fun e a w h => by obtain ⟨rfl, h⟩ := h; exact h) (wp_region_any hm (wpAny_of_T (T := T) (m := m) _ _ _ _ ?_))
  have := wpAnyT_of_plan (P := P) (T := T) (Q := Q) hsel hs hc hms (l.drop m) (fun j => by simp [List.getElem?_drop]) plan (Array.replicate l.toArray.size false) a w.drew hT
    ⟨by simp, fun j oj _ hl => (by rw [getD_replicate_false] at hl; cases hl), fun t _ ht => getD_in (by simpa using ht) (getD_replicate_false _ _)⟩ (by rw [hdl]; exact hlex) h
  rw [hpl, hdl, show m + (l.toArray.size - m) = l.toArray.size by omega] at this
  exact this
end
end Go.Proofs.YtmlfnidckfeebaaGreatDoor
namespace Go.Proofs.YtmlfnidckfeebaaGreatDoor
open Go.RowKit Go.Shelf
attribute [local go_sem] yUpon strOf_toList
namespace Sp
theorem rget_mem : ∀ (m : List DE) (d : Bs), rget m d = [] ∨ ∃ e ∈ m, rget m d = e.2
  | [], d => .inl rfl
  | e :: r, d => by
    by_cases h : e.1 = d
    · exact .inr ⟨e, List.mem_cons_self .., by rw [rget, if_pos h]⟩
    · rcases rget_mem r d with h2 | ⟨x, hx, h2⟩
      · exact .inl (by rw [rget, if_neg h, h2])
      · exact .inr ⟨x, List.mem_cons_of_mem _ hx, by rw [rget, if_neg h, h2]⟩
end Sp
end Go.Proofs.YtmlfnidckfeebaaGreatDoor
namespace Go.Proofs.YtmlfnidckfeebaaGreatDoor
open Go.RowKit
namespace Sp
theorem leaf_root {o : Option T} {m : List DE} (P : Both o m) : (nodeS (o.getD .nil) []).1 = [] := by
  rw [← (names_node P (.inl rfl)).2]
  exact rget_bad P.gm.1 check_nil
end Sp
end Go.Proofs.YtmlfnidckfeebaaGreatDoor
