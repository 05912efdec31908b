/- Walks: walk.Under, walk.List. Walks: the document's List, Under, Count; walk.Count. A law for a region that draws its order, by a plan: each next operation is the only one that may come, or tells one value in every world of a kind T, so that it may as well come now. Siblings: which of two wins (some answer), and the winner. -/
import Derived.Test.YteiblfcehlibpaaGreatDoorGF40
import Derived.Test.YteiblfcehlibpaaGreatDoorGF26
import Derived.Test.YteiblfcehlibpaaGreatDoorGF37
import Derived.Deep.DeepCutAuto
import Derived.Test.YteiblfcehlibpaaGreatDoorGF35
import Derived.Test.YteiblfcehlibpaaGreatDoorGF06
namespace Go.Proofs.YteiblfcehlibpaaGreatDoor
open Go.RowKit Go.Shelf
attribute [local go_sem] yUpon strOf_toList
namespace Sp
/-- Is a path below a directory, behind a text? -/
def behind (d a p : Bs) : Bool := under p d && decide (0 < compare p a)
end Sp
theorem EntsOwn.take {w : World} {B : Nat} {g n cap : Nat} {l : List Sp.DE} (h : EntsOwn w B (.slice (some ⟨g, 0, none⟩) n cap) l) (hn : n = l.length) (k : Nat) (hk : k ≤ n) : EntsOwn w B (.slice (some ⟨g, 0, none⟩) k cap) (l.take k) := by
  obtain ⟨mo, h1, h2, h3⟩ := h
  subst hn
  have hml : mo.length = l.length := by rw [← h1, List.length_map]
  refine ⟨mo.take k, by rw [List.map_take, h1], ?_, fun x hx => h3 x (List.mem_of_mem_take hx)⟩
  have h4 := own_take h2 k hk
  rw [entsC_take] at h4
  have e : (l.take k).length = k := by rw [List.length_take]; omega
  rw [e]
  exact h4
end Go.Proofs.YteiblfcehlibpaaGreatDoor
namespace Go.Proofs.YteiblfcehlibpaaGreatDoor
open Go.RowKit Go.Shelf
attribute [local go_sem] yUpon strOf_toList
namespace Sp
end Sp
end Go.Proofs.YteiblfcehlibpaaGreatDoor
namespace Go.Proofs.YteiblfcehlibpaaGreatDoor
open Go.RowKit
section
variable {P : Program} {md : Region.Mode} {ops : Array Oper} {T : World → Prop}
def planB (md : Region.Mode) (ops : Array Oper) (m : Nat) (B : Array Bool → Bool) : List (Bool × Nat) → Array Bool → Bool
  | [], listed => B listed
  | (true, k) :: r, listed => decide (k < m) && (Region.ready md ops listed).contains k && Region.free md ops listed k && planB md ops m B r (listed.setIfInBounds k true)
  | (false, k) :: r, listed => decide (k < m) && decide (Region.ready md ops listed = [k]) && planB md ops m B r (listed.setIfInBounds k true)
def lexPlanB (md : Region.Mode) (ops : Array Oper) (m : Nat) (plan : List (Bool × Nat)) : Bool :=
  Region.noSelect ops && decide (m < ops.size) && decide (plan.length = m) && sinkFrom md ops 0 m && behindB md ops m && planB md ops m (Region.seqB md ops (ops.size - m) m) plan (Array.replicate ops.size false)
def wpPlanT (P : Program) (ops : Array Oper) (T : World → Prop) (Q : Exit → Act → World → Prop) (tl : List Oper) : List (Bool × Nat) → Act → World → Prop
  | [], a, w => wpList P ops (goesOn Q) tl a w
  | (true, k) :: r, a, w => ∃ o v, ops[k]? = some o ∧ YieldsT P ops T o v a ∧ wpPlanT P ops T Q tl r (a.put o.dst v) w
  | (false, k) :: r, a, w => ∃ o, ops[k]? = some o ∧ wpList P ops (fun e a w => e = .normal ∧ T w ∧ wpPlanT P ops T Q tl r a w) [o] a w
theorem plan_nil {Q : Exit → Act → World → Prop} {tl : List Oper} {a : Act} {w : World} (h : wpList P ops (goesOn Q) tl a w) : wpPlanT P ops T Q tl [] a w := h
theorem plan_float {Q : Exit → Act → World → Prop} {tl : List Oper} {k : Nat} {r : List (Bool × Nat)} {a : Act} {w : World} {o : Oper} (h0 : ops[k]? = some o)
    (h : ∀ K : Act → Prop, (∀ a, wpPlanT P ops T Q tl r a w → K a) → ∃ v, YieldsT P ops T o v a ∧ K (a.put o.dst v)) : wpPlanT P ops T Q tl ((true, k) :: r) a w := by
  obtain ⟨v, h1, h2⟩ := h _ fun _ h => h
  exact ⟨o, v, h0, h1, h2⟩
theorem plan_only {Q : Exit → Act → World → Prop} {tl : List Oper} {k : Nat} {r : List (Bool × Nat)} {a : Act} {w : World} {o : Oper} (h0 : ops[k]? = some o)
    (h : ∀ Q' : Exit → Act → World → Prop, (∀ a w, T w → wpPlanT P ops T Q tl r a w → Q' .normal a w) → wpList P ops Q' [o] a w) : wpPlanT P ops T Q tl ((false, k) :: r) a w :=
  ⟨o, h0, h _ fun _ _ h1 h2 => ⟨rfl, h1, h2⟩⟩
theorem wpAnyT_of_plan {m : Nat} {Q : Exit → Act → World → Prop} (hsel : Region.noSelect ops = true) (hs : sinkFrom md ops 0 m = true) (hc : behindB md ops m = true) (hms : m < ops.size) (tl : List Oper) (htl : ∀ j, tl[j]? = ops[m + j]?) :
    ∀ (plan : List (Bool × Nat)) (listed : Array Bool) (a : Act) (w : World), T w → HeadInv md ops m listed →
      planB md ops m (Region.seqB md ops tl.length m) plan listed = true → wpPlanT P ops T Q tl plan a w → wpAnyT P md ops T m (goesOn Q) (plan.length + tl.length) listed a w
  | [], listed, a, w, _, _, hB, h => by
    rw [List.length_nil, Nat.zero_add]
    exact wpAnyT_of_seq tl m listed a w (Nat.le_refl _) htl hB h
  | (true, k) :: r, listed, a, w, hT, inv, hB, h => by
    obtain ⟨o, v, h0, hy, hK⟩ := h
    simp only [planB, Bool.and_eq_true, decide_eq_true_eq] at hB
    obtain ⟨⟨⟨hk, hr⟩, hf⟩, hB'⟩ := hB
    have hr' : k ∈ Region.ready md ops listed := by simpa using hr
    rw [List.length_cons, show r.length + 1 + tl.length = (r.length + tl.length) + 1 by omega]
    exact wpAnyT_first h0 (Region.noSelect_spec hsel) (fun c a w h => by cases h.1) (I := HeadInv md ops m) (fun listed j inv hj hjm => inv.set hj hjm)
      (fun listed inv hun t ht => tail_waits3 hs hc hms inv _ k rfl (Nat.zero_le _) hk hun t ht) (r.length + tl.length) listed a w hT inv (Region.free_spec h0 hf) hr' hy
      (wpAnyT_of_plan hsel hs hc hms tl htl r _ _ w hT (inv.set hr' hk) hB' hK)
  | (false, k) :: r, listed, a, w, hT, inv, hB, h => by
    obtain ⟨o, h0, hK⟩ := h
    simp only [planB, Bool.and_eq_true, decide_eq_true_eq] at hB
    obtain ⟨⟨hk, hr⟩, hB'⟩ := hB
    have hr' : k ∈ Region.ready md ops listed := by rw [hr]; exact List.mem_singleton.2 rfl
    rw [List.length_cons, show r.length + 1 + tl.length = (r.length + tl.length) + 1 by omega]
    refine ⟨fun h1 => (by rw [hr] at h1; cases h1), fun i hi => ?_⟩
    rw [hr] at hi
    obtain rfl : i = k := by simpa using hi
    exact wpOp_of_one h0 (fun e a w h => h.1) (fun a2 w2 h2 => ⟨fun _ => h2.2.1, wpAnyT_of_plan hsel hs hc hms tl htl r _ a2 w2 h2.2.1 (inv.set hr' hk) hB' h2.2.2⟩) hK
/-- The first m operations by a plan; then a tail in its own order. -/
theorem wp_region_planT (T : World → Prop) {id : Nat} {Q : Exit → Act → World → Prop} {a : Act} {w : World} {l : List Oper} (m : Nat) (plan : List (Bool × Nat)) (hm : P.follows .mixedOrders = true) (hB : lexPlanB .any l.toArray m plan = true)
    (hT : T w.drew) (h : wpPlanT P l.toArray T Q (l.drop m) plan a w.drew) : (Code.region id l.toArray true).wp P Q a w := by
  simp only [lexPlanB, Bool.and_eq_true, decide_eq_true_eq] at hB
  obtain ⟨⟨⟨⟨⟨hsel, hms⟩, hpl⟩, hs⟩, hc⟩, hlex⟩ := hB
  have hms' : m < l.length := by simpa using hms
  have hdl : (l.drop m).length = l.toArray.size - m := by simp
  refine Code.wp_mono (Q := goesOn Q) (fun e a w h => by obtain ⟨rfl, h⟩ := h; exact h) (wp_region_any hm (wpAny_of_T (T := T) (m := m) _ _ _ _ ?_))
  have := wpAnyT_of_plan (P := P) (T := T) (Q := Q) hsel hs hc hms (l.drop m) (fun j => by simp [List.getElem?_drop]) plan (Array.replicate l.toArray.size false) a w.drew hT
    ⟨by simp, fun j oj _ hl => (by rw [getD_replicate_false] at hl; cases hl), fun t _ ht => getD_in (by simpa using ht) (getD_replicate_false _ _)⟩ (by rw [hdl]; exact hlex) h
  rw [hpl, hdl, show m + (l.toArray.size - m) = l.toArray.size by omega] at this
  exact this
end
end Go.Proofs.YteiblfcehlibpaaGreatDoor
namespace Go.Proofs.YteiblfcehlibpaaGreatDoor
open Go.RowKit Go.Shelf
attribute [local go_sem] yUpon strOf_toList
set_option maxRecDepth 100000 in
theorem isnan_int (x : Int) (w : World) : Calls Tryz.prog 214 #[.int .i64 x] w fun e w' => e = .returned (.bool false) ∧ w = w' := by
  have h : (x != x) = false := by simp
  go_enter Tryz.func214, Tryz.ntmps214
  go_wp2
  go_ret
  exact ⟨rfl, rfl⟩
set_option maxRecDepth 100000 in
set_option maxHeartbeats 2000000 in
theorem icmp_calls (x y : Int) (w : World) : Calls Tryz.prog 187 #[.int .i64 x, .int .i64 y] w fun e w' => ∃ c, e = .returned (.int .i64 c) ∧ w = w' := by
  go_enter Tryz.func187, Tryz.ntmps187
  go_wp2_with fail
  refine (isnan_int x w).mono ?_
  rintro e w1 ⟨rfl, rfl⟩
  go_wp2_with fail
  refine (isnan_int y w).mono ?_
  rintro e w1 ⟨rfl, rfl⟩
  by_cases h1 : x < y
  · go_wp2
    go_ret
    exact ⟨_, rfl, rfl⟩
  · by_cases h2 : y < x
    · go_wp2
      go_ret
      exact ⟨_, rfl, rfl⟩
    · go_wp2
      go_ret
      exact ⟨_, rfl, rfl⟩
set_option maxRecDepth 100000 in
set_option maxHeartbeats 2000000 in
theorem or2_calls (x y : Int) (g : Nat) (w : World) (h : isBlk w g 3 #[.int .i64 x, .int .i64 y]) : Calls Tryz.prog 186 #[.slice (some ⟨g, 0, none⟩) 2 2] w fun e w' => ∃ c, e = .returned (.int .i64 c) ∧ Ext w w' := by
  have f0 := (h.cell 0).trans rfl
  have f1 := (h.cell 1).trans rfl
  go_enter Tryz.func186, Tryz.ntmps186
  go_wp2
  go_loopw [8] (fun v8 wr => ∃ k : Nat, k ≤ 2 ∧ v8 = .int .i64 k ∧ w = wr) (fun v8 _ => 2 - (intOf v8).toNat)
  case atStart => exact ⟨0, by decide, rfl, rfl⟩
  case round =>
    obtain ⟨k, hk, rfl, rfl⟩ := hrel
    have h3 : k = 0 ∨ k = 1 ∨ k = 2 := by omega
    rcases h3 with rfl | rfl | rfl
    · go_wp2
      · go_ret
        exact ⟨_, rfl, Ext.refl _⟩
      · go_roundw
        case rel => exact ⟨1, by decide, rfl, trivial⟩
        case measure => decide
    · go_wp2
      · go_ret
        exact ⟨_, rfl, Ext.refl _⟩
      · go_roundw
        case rel => exact ⟨2, by decide, rfl, trivial⟩
        case measure => decide
    · go_wp2
      go_ret
      exact ⟨_, rfl, Ext.refl _⟩
set_option maxRecDepth 100000 in
set_option maxHeartbeats 4000000 in
theorem wins_calls (a b : Sp.Ver) (A B : Option Addr) (c d : Nat) (w : World) : Calls Tryz.prog 149 #[.agg (verC A c a), .agg (verC B d b)] w fun e w' => ∃ r, e = .returned (.bool r) ∧ Ext w w' := by
  show Calls Tryz.prog 149 #[.agg #[.int .i64 a.dot.1, .int .i64 a.dot.2, .slice A a.past.length c, .bool a.dead, .string (strOf a.data)], .agg #[.int .i64 b.dot.1, .int .i64 b.dot.2, .slice B b.past.length d, .bool b.dead, .string (strOf b.data)]] w _
  go_enter Tryz.func149, Tryz.ntmps149
  go_upto_region 1 with fail
  obtain ⟨w0, hw0⟩ : ∃ w0, w0 = (w.alloc (.cells #[.int .i64 a.dot.1, .int .i64 a.dot.2, .slice A a.past.length c, .bool a.dead, .string (strOf a.data)] 75)).alloc (.cells #[.int .i64 b.dot.1, .int .i64 b.dot.2, .slice B b.past.length d, .bool b.dead, .string (strOf b.data)] 75) := ⟨_, rfl⟩
  have X0 := Lib.hid (show isBlk w0 w.heap.size 75 #[.int .i64 a.dot.1, .int .i64 a.dot.2, .slice A a.past.length c, .bool a.dead, .string (strOf a.data)] by rw [hw0]; exact (box_at w _ _).alloc _)
  have Y0 := Lib.hid (show isBlk w0 (w.heap.size + 1) 75 #[.int .i64 b.dot.1, .int .i64 b.dot.2, .slice B b.past.length d, .bool b.dead, .string (strOf b.data)] by
    rw [hw0]
    have := box_at (w.alloc (.cells #[.int .i64 a.dot.1, .int .i64 a.dot.2, .slice A a.past.length c, .bool a.dead, .string (strOf a.data)] 75)) #[.int .i64 b.dot.1, .int .i64 b.dot.2, .slice B b.past.length d, .bool b.dead, .string (strOf b.data)] 75
    rwa [World.size_alloc] at this)
  have E0 := Lib.hid (show Ext w w0 by rw [hw0]; exact Below.alloc (Ext.alloc _ _) (by simp) _)
  rw [← hw0]
  clear hw0
  have f3 := (X0.out.cell 3).trans rfl
  have k3 := (Y0.out.cell 3).trans rfl
  obtain ⟨p, hp⟩ : ∃ p, p = a.dead := ⟨_, rfl⟩
  obtain ⟨q, hq⟩ : ∃ q, q = b.dead := ⟨_, rfl⟩
  rw [← hp] at f3
  rw [← hq] at k3
  clear hp hq
  go_wp2_with fail
  · go_ret
    exact ⟨q, rfl, E0.out⟩
  · clear f3 k3
    refine wp_region_planT (fun W => Ext w0 W) 15 [(true, 0), (true, 1), (true, 2), (true, 3), (true, 4), (true, 5), (true, 7), (true, 8), (true, 9), (true, 10), (true, 11), (true, 12), (false, 6), (false, 13), (false, 14)] (by kernel_rfl) (by kernel_rfl) (Ext.refl w0).drew ?_
    refine plan_float rfl (fun K hK => ?_)
    apply Exists.intro
    refine ⟨Or.inl ⟨rfl, fun W hS => ?_⟩, ?_⟩
    · have hz : Ext w0 W := hS; have f0 := ((X0.out.below hz).cell 0).trans rfl; have f1 := ((X0.out.below hz).cell 1).trans rfl; have k0 := ((Y0.out.below hz).cell 0).trans rfl; have k1 := ((Y0.out.below hz).cell 1).trans rfl
      go_simp
      first | done | exact rfl
    go_simp
    refine hK _ ?_
    clear hK K
    refine plan_float rfl (fun K hK => ?_)
    apply Exists.intro
    refine ⟨Or.inl ⟨rfl, fun W hS => ?_⟩, ?_⟩
    · have hz : Ext w0 W := hS; have f0 := ((X0.out.below hz).cell 0).trans rfl; have f1 := ((X0.out.below hz).cell 1).trans rfl; have k0 := ((Y0.out.below hz).cell 0).trans rfl; have k1 := ((Y0.out.below hz).cell 1).trans rfl
      go_simp
      first | done | exact rfl
    go_simp
    refine hK _ ?_
    clear hK K
    refine plan_float rfl (fun K hK => ?_)
    apply Exists.intro
    refine ⟨Or.inl ⟨rfl, fun W hS => ?_⟩, ?_⟩
    · have hz : Ext w0 W := hS; have f0 := ((X0.out.below hz).cell 0).trans rfl; have f1 := ((X0.out.below hz).cell 1).trans rfl; have k0 := ((Y0.out.below hz).cell 0).trans rfl; have k1 := ((Y0.out.below hz).cell 1).trans rfl
      go_simp
      first | done | exact rfl
    go_simp
    refine hK _ ?_
    clear hK K
    refine plan_float rfl (fun K hK => ?_)
    apply Exists.intro
    refine ⟨Or.inl ⟨rfl, fun W hS => ?_⟩, ?_⟩
    · have hz : Ext w0 W := hS; have f0 := ((X0.out.below hz).cell 0).trans rfl; have f1 := ((X0.out.below hz).cell 1).trans rfl; have k0 := ((Y0.out.below hz).cell 0).trans rfl; have k1 := ((Y0.out.below hz).cell 1).trans rfl
      go_simp
      first | done | exact rfl
    go_simp
    refine hK _ ?_
    clear hK K
    refine plan_float rfl (fun K hK => ?_)
    apply Exists.intro
    refine ⟨Or.inl ⟨rfl, fun W hS => ?_⟩, ?_⟩
    · have hz : Ext w0 W := hS; have f0 := ((X0.out.below hz).cell 0).trans rfl; have f1 := ((X0.out.below hz).cell 1).trans rfl; have k0 := ((Y0.out.below hz).cell 0).trans rfl; have k1 := ((Y0.out.below hz).cell 1).trans rfl
      go_simp
      first | done | exact rfl
    go_simp
    refine hK _ ?_
    clear hK K
    refine plan_float rfl (fun K hK => ?_)
    apply Exists.intro
    refine ⟨Or.inl ⟨rfl, fun W hS => ?_⟩, ?_⟩
    · have hz : Ext w0 W := hS; have f0 := ((X0.out.below hz).cell 0).trans rfl; have f1 := ((X0.out.below hz).cell 1).trans rfl; have k0 := ((Y0.out.below hz).cell 0).trans rfl; have k1 := ((Y0.out.below hz).cell 1).trans rfl
      go_simp
      first | done | exact rfl
    go_simp
    refine hK _ ?_
    clear hK K
    refine plan_float rfl (fun K hK => ?_)
    apply Exists.intro
    refine ⟨Or.inl ⟨rfl, fun W hS => ?_⟩, ?_⟩
    · have hz : Ext w0 W := hS; have f0 := ((X0.out.below hz).cell 0).trans rfl; have f1 := ((X0.out.below hz).cell 1).trans rfl; have k0 := ((Y0.out.below hz).cell 0).trans rfl; have k1 := ((Y0.out.below hz).cell 1).trans rfl
      go_simp
      first | done | exact rfl
    go_simp
    refine hK _ ?_
    clear hK K
    refine plan_float rfl (fun K hK => ?_)
    apply Exists.intro
    refine ⟨Or.inl ⟨rfl, fun W hS => ?_⟩, ?_⟩
    · have hz : Ext w0 W := hS; have f0 := ((X0.out.below hz).cell 0).trans rfl; have f1 := ((X0.out.below hz).cell 1).trans rfl; have k0 := ((Y0.out.below hz).cell 0).trans rfl; have k1 := ((Y0.out.below hz).cell 1).trans rfl
      go_simp
      first | done | exact rfl
    go_simp
    refine hK _ ?_
    clear hK K
    refine plan_float rfl (fun K hK => ?_)
    apply Exists.intro
    refine ⟨Or.inl ⟨rfl, fun W hS => ?_⟩, ?_⟩
    · have hz : Ext w0 W := hS; have f0 := ((X0.out.below hz).cell 0).trans rfl; have f1 := ((X0.out.below hz).cell 1).trans rfl; have k0 := ((Y0.out.below hz).cell 0).trans rfl; have k1 := ((Y0.out.below hz).cell 1).trans rfl
      go_simp
      first | done | exact rfl
    go_simp
    refine hK _ ?_
    clear hK K
    refine plan_float rfl (fun K hK => ?_)
    apply Exists.intro
    refine ⟨Or.inl ⟨rfl, fun W hS => ?_⟩, ?_⟩
    · have hz : Ext w0 W := hS; have f0 := ((X0.out.below hz).cell 0).trans rfl; have f1 := ((X0.out.below hz).cell 1).trans rfl; have k0 := ((Y0.out.below hz).cell 0).trans rfl; have k1 := ((Y0.out.below hz).cell 1).trans rfl
      go_simp
      first | done | exact rfl
    go_simp
    refine hK _ ?_
    clear hK K
    refine plan_float rfl (fun K hK => ?_)
    apply Exists.intro
    refine ⟨Or.inl ⟨rfl, fun W hS => ?_⟩, ?_⟩
    · have hz : Ext w0 W := hS; have f0 := ((X0.out.below hz).cell 0).trans rfl; have f1 := ((X0.out.below hz).cell 1).trans rfl; have k0 := ((Y0.out.below hz).cell 0).trans rfl; have k1 := ((Y0.out.below hz).cell 1).trans rfl
      go_simp
      first | done | exact rfl
    go_simp
    refine hK _ ?_
    clear hK K
    refine plan_float rfl (fun K hK => ?_)
    apply Exists.intro
    refine ⟨Or.inl ⟨rfl, fun W hS => ?_⟩, ?_⟩
    · have hz : Ext w0 W := hS; have f0 := ((X0.out.below hz).cell 0).trans rfl; have f1 := ((X0.out.below hz).cell 1).trans rfl; have k0 := ((Y0.out.below hz).cell 0).trans rfl; have k1 := ((Y0.out.below hz).cell 1).trans rfl
      go_simp
      first | done | exact rfl
    go_simp
    refine hK _ ?_
    clear hK K
    refine plan_only rfl (fun Q' hQ' => ?_)
    go_wp2_with fail
    refine (icmp_calls a.dot.2 b.dot.2 w0.drew).mono ?_
    rintro e w1 ⟨x1, rfl, rfl⟩
    go_wp2
    refine hQ' _ _ (Ext.refl w0).drew ?_
    clear hQ'
    refine plan_only rfl (fun Q' hQ' => ?_)
    go_wp2_with fail
    refine (icmp_calls a.dot.1 b.dot.1 w0.drew).mono ?_
    rintro e w1 ⟨x2, rfl, rfl⟩
    go_wp2
    refine hQ' _ _ (Ext.refl w0).drew ?_
    clear hQ'
    refine plan_only rfl (fun Q' hQ' => ?_)
    go_wp2
    refine hQ' _ _ (show Ext w0 _ from Below.alloc (Ext.refl w0).drew (Nat.le_refl _) _) ?_
    clear hQ'
    refine plan_nil ?_
    simp only [List.drop_succ_cons, List.drop_zero]
    go_wp2_with fail
    have E1 := Lib.hid (show Ext w0 (w0.alloc (.cells #[.int .i64 x1, .int .i64 x2] 3)).drew from (Ext.alloc w0 _).drew)
    refine (or2_calls x1 x2 w0.heap.size _ (show isBlk (w0.alloc (.cells #[.int .i64 x1, .int .i64 x2] 3)).drew w0.heap.size 3 #[.int .i64 x1, .int .i64 x2] from box_at w0 _ _)).mono ?_
    rintro e w2 ⟨x3, rfl, hb2⟩
    have E2 := Lib.hid (E0.out.trans (E1.out.trans hb2))
    clear hb2
    go_wp2
    refine ⟨rfl, ?_⟩
    go_wp2
    go_ret
    exact ⟨_, rfl, E2.out⟩
end Go.Proofs.YteiblfcehlibpaaGreatDoor
