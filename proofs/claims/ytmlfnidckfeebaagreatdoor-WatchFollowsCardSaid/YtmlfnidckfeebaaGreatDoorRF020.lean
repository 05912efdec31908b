/- Walks: versions that nobody else has: each of their rows is of its own type. Walks: each: a tree's own range. Walks: Entries: all paths and leaves of a tree. Walks: slices.IndexFunc and slices.DeleteFunc at entries. Plain and walks: which paths are below a directory, as the program tells. A law for a region that draws its order, by a plan: each next operation is the only one that may come, or tells one value in every world of a kind T, so that it may as well come now. Siblings: which of two wins (some answer), and the winner. Siblings: the winner of a leaf: some version of it, if any is alive. The winner of a leaf, plain. -/
import Derived.Laws.ResultCell
import Derived.Test.YtmlfnidckfeebaaGreatDoorRF019
namespace Go.Proofs.YtmlfnidckfeebaaGreatDoor
open Go.RowKit Go.Shelf
attribute [local go_sem] yUpon
theorem own_lowT {w : World} {b b' n : Nat} {e : TypeId} {size : Nat} {v : Value} {xs : List Value} (h : w.ownsRow b e size v n xs) (hb : b' ≤ b) : w.ownsRow b' e size v n xs := by
  refine ⟨h.1, ?_⟩
  rcases h.2 with h2 | ⟨g, cap, cur, hv, hg, rest⟩
  · exact .inl h2
  · exact .inr ⟨g, cap, cur, hv, Nat.le_trans hb hg, rest⟩
theorem own_keep {T : TypeId → Prop} {e : TypeId} (hT : ¬ T e) {B b n size : Nat} {w w' : World} {v : Value} {xs : List Value} (h : w.ownsRow b e size v n xs) (k : KB T B w w') : w'.ownsRow b e size v n xs := by
  refine ⟨h.1, ?_⟩
  rcases h.2 with h2 | ⟨g, cap, cur, hv, hg, hh, rest⟩
  · exact .inl h2
  · exact .inr ⟨g, cap, cur, hv, hg, k.row _ _ _ _ hh hT, rest⟩
def PastT (w : World) (x : Option Addr × Nat × Sp.Ver) : Prop := w.ownsRow 0 68 2 (.slice x.1 x.2.2.past.length x.2.1) x.2.2.past.length (dotsC x.2.2.past) ∧ x.2.2.past.length ≤ 140737488351232
def OwnVersT (w : World) (v : Value) (l : List Sp.Ver) : Prop := ∃ m : List (Option Addr × Nat × Sp.Ver), m.map (·.2.2) = l ∧ w.ownsRow 0 71 5 v l.length (versC m) ∧ ∀ x ∈ m, PastT w x
theorem OwnVersT.keep {T : TypeId → Prop} (h1 : ¬ T 71) (h2 : ¬ T 68) {B : Nat} {w w' : World} {v : Value} {l : List Sp.Ver} (h : OwnVersT w v l) (k : KB T B w w') : OwnVersT w' v l := by
  obtain ⟨m, e1, e2, e3⟩ := h
  exact ⟨m, e1, own_keep h1 e2 k, fun x hx => ⟨own_keep h2 (e3 x hx).1 k, (e3 x hx).2⟩⟩
theorem OwnVersT.read {w : World} {v : Value} {l : List Sp.Ver} (h : OwnVersT w v l) : ∃ A cap, v = .slice A l.length cap ∧ Vers w A l := by
  obtain ⟨m, h1, h2, h3⟩ := h
  obtain ⟨A, cap, hv, hc⟩ := own_read h2
  refine ⟨A, cap, hv, m, h1, hc, fun x hx => ⟨?_, (h3 x hx).2⟩⟩
  obtain ⟨A2, c2, e2, hd⟩ := own_read (h3 x hx).1
  cases e2
  exact hd
set_option maxRecDepth 100000 in
set_option maxHeartbeats 4000000 in
theorem copiedT_calls (l : List Sp.Ver) (A : Option Addr) (cap : Nat) (w : World) (hV : Vers w A l) (hl : l.length ≤ 1000000) (hp : ∀ v ∈ l, v.past.length ≤ 1000000) :
    Calls Tryz.prog 84 #[.slice A l.length cap] w fun e w' => ∃ v, e = .returned v ∧ OwnVersT w' v l ∧ Ext w w' := by
  obtain ⟨m, hm, hc, hps⟩ := hV
  have hml : m.length = l.length := by rw [← hm]; simp
  have CV := Lib.hid (cloneVer (versC m) l.length cap A w hc (by rw [versC_len, hml]) (versC_one m) (by omega))
  go_enter Tryz.func84, Tryz.ntmps84
  go_wp2_with fail
  refine CV.out.mono ?_
  rintro e w1 ⟨v1, rfl, hO, hb1⟩
  rcases own_form hO with ⟨rfl, hl0, _⟩ | ⟨gv, cv, rfl, hgv, hgl⟩
  · have hl0' : l = [] := List.eq_nil_of_length_eq_zero hl0
    subst hl0'
    go_wp2
    go_loopw [9] (fun v9 wr => v9 = .int .i64 0 ∧ wr = w1) (fun _ _ => 0)
    case atStart => exact ⟨rfl, rfl⟩
    case round =>
      obtain ⟨rfl, rfl⟩ := hrel
      go_wp2
      go_ret
      exact ⟨_, rfl, ⟨[], rfl, World.ownsRow_nil _ _ _ _, fun _ h => by cases h⟩, hb1⟩
  · have HM := Lib.hid hm
    have HPS := Lib.hid hps
    have HO := Lib.hid hO
    have HB1 := Lib.hid hb1
    clear hO hb1 hc hm hps
    go_wp2
    go_loopw [9] (fun v9 wr => ∃ (k : Nat) (m' : List (Option Addr × Nat × Sp.Ver)), k ≤ l.length ∧ v9 = .int .i64 k ∧ m'.map (·.2.2) = l ∧ wr.ownsRow w.heap.size 71 5 (.slice (some ⟨gv, 0, none⟩) l.length cv) l.length (versC m') ∧
      (∀ i (h : i < m'.length), (i < k → (∀ a, m'[i].1 = some a → gv < a.block) ∧ PastT wr m'[i]) ∧ (k ≤ i → Past w m'[i].1 m'[i].2.2)) ∧ Ext w wr ∧ gv < wr.heap.size) (fun v9 _ => l.length - (intOf v9).toNat)
    case atStart => exact ⟨0, m, Nat.zero_le _, rfl, HM.out, HO.out, fun i h => ⟨fun h0 => by omega, fun _ => HPS.out _ (List.getElem_mem h)⟩, HB1.out, hgl⟩
    case round =>
      obtain ⟨k, m', hk, rfl, hmm, hO, hP, hb, hgw⟩ := hrel
      have hml' : m'.length = l.length := by rw [← hmm]; simp
      by_cases hlt : k < l.length
      · have hkm : k < m'.length := by omega
        obtain ⟨c2, f2, hBg, _⟩ := own_isBlk hO (k * 5 + 2) _ ((versC_get m' k 2 hkm (by decide)).trans rfl)
        have pk := (hP k hkm).2 (Nat.le_refl _)
        have hpl : m'[k].2.2.past.length ≤ 1000000 := hp _ (by rw [← hmm]; exact List.mem_map.2 ⟨m'[k], List.getElem_mem hkm, rfl⟩)
        have CD := Lib.hid (cloneDot (dotsC m'[k].2.2.past) m'[k].2.2.past.length m'[k].2.1 m'[k].1 wr (pk.ext hb).1 (dotsC_len _) (dotsC_one _) (by omega))
        have EP := Lib.hid fun (W : World) (x : Option Addr × Nat × Sp.Ver) (hx : x ∈ m') => hx
        have O0 := Lib.hid hO
        have P0 := Lib.hid hP
        have HB := Lib.hid hb
        have HMM := Lib.hid hmm
        have HGW := Lib.hid hgw
        have PL := Lib.hid pk.2
        have B1 : (k : Int) < (l.length : Int) := by omega
        obtain ⟨x, hx⟩ : ∃ x, x = m'[k] := ⟨_, rfl⟩
        rw [← hx] at c2 CD PL hpl
        have HX := Lib.hid hx
        clear hO hP hb hmm hgw pk EP hx
        go_wp2_with fail
        refine CD.out.mono ?_
        rintro e w2 ⟨v2, rfl, hO2, hb2⟩
        obtain ⟨A2, cp2, rfl, hC2⟩ := own_read hO2
        have off := own_off hO2
        have c2' := hb2.cell c2
        have f2' : w2.frozen? ⟨gv, k * 5 + 2, none⟩ = false := by
          have := hb2.block gv HGW.out
          rw [World.frozen?_of_block (a := ⟨gv, k * 5 + 2, none⟩) this]; exact f2
        have O2 := Lib.hid hO2
        have C2 := Lib.hid hC2
        have OFF := Lib.hid off
        have HB2 := Lib.hid hb2
        clear hO2 hC2 off hb2 c2 f2
        go_wp2_with fail
        have hj : k * 5 + 2 < (versC m').length := by rw [versC_len]; omega
        have O3 := own_set (owned_below O0.out HB2.out) (k * 5 + 2) hj (.slice A2 x.2.2.past.length cp2)
        have VS := versC_set m' k A2 cp2 hkm
        rw [← HX.out] at VS
        rw [VS] at O3
        have hlk : x.2.2 = l[k] := by
          have : l[k]? = some x.2.2 := by rw [← HMM.out, List.getElem?_map, List.getElem?_eq_getElem hkm, ← HX.out]; rfl
          rw [List.getElem?_eq_getElem hlt] at this
          exact (Option.some.inj this).symm
        have hmap : (m'.set k (A2, cp2, x.2.2)).map (·.2.2) = l := by
          rw [List.map_set, HMM.out]
          show l.set k x.2.2 = l
          rw [hlk, List.set_getElem_self]
        have on : Only gv w2 (w2.setCell ⟨gv, k * 5 + 2, none⟩ (.slice A2 x.2.2.past.length cp2)) := Only.set _ _ _ _
        refine ⟨⟨k + 1, m'.set k (A2, cp2, x.2.2), by omega, by go_num, hmap, O3, fun i hi => ?_, (HB.out.trans HB2.out).setCell hBg _, by have := HB2.out.size; have := HGW.out; simp; omega⟩, by simp [intOf]; omega⟩
        have hi' : i < m'.length := by simpa using hi
        rw [List.getElem_set]
        by_cases hik : k = i
        · rw [if_pos hik]
          refine ⟨fun _ => ⟨fun a ha => by have := OFF.out a ha; have := HGW.out; omega, own_apart (own_lowT O2.out (Nat.zero_le _)) on (fun e => ?_), PL.out⟩, fun h => by omega⟩
          cases hA2 : A2 with
          | none => rw [hA2] at e; cases e
          | some a =>
            rw [hA2] at e
            have e3 : a.block = gv := Option.some.inj e
            have := OFF.out a hA2
            have := HGW.out
            omega
        · rw [if_neg hik]
          obtain ⟨p1, p2⟩ := P0.out i hi'
          refine ⟨fun h => ?_, fun h => p2 (by omega)⟩
          obtain ⟨q1, q2⟩ := p1 (by omega)
          refine ⟨q1, own_apart (own_ext q2.1 HB2.out) on (fun e => ?_), q2.2⟩
          cases hA2 : m'[i].1 with
          | none => rw [hA2] at e; cases e
          | some a =>
            rw [hA2] at e
            have e3 : a.block = gv := Option.some.inj e
            have := q1 a hA2
            omega
      · obtain rfl : k = l.length := by omega
        go_wp2
        go_ret
        exact ⟨_, rfl, ⟨m', hmm, own_lowT hO (Nat.zero_le _), fun x hx => by
          obtain ⟨i, hi, rfl⟩ := List.getElem_of_mem hx
          exact ((hP i hi).1 (by omega)).2⟩, hb⟩
end Go.Proofs.YtmlfnidckfeebaaGreatDoor
namespace Go.Proofs.YtmlfnidckfeebaaGreatDoor
open Go.RowKit Go.Shelf
attribute [local go_sem] yUpon strOf_toList Oper.semAt_some
set_option maxRecDepth 100000 in
set_option maxHeartbeats 4000000 in
theorem root_some (t : Sp.T) (v : Value) (w : World) (h : TreeAt w v (some t)) : ∃ g, InnerAt w g t ∧ ∀ W, Ext w W → Calls Tryz.prog 79 #[v] W fun e W' => e = .returned (.pointer (some ⟨g, 0, none⟩)) ∧ W = W' := by
  rcases h with ⟨h, _⟩ | ⟨g, p, rfl, hx, ⟨h, _⟩ | ⟨g1, t1, ht, rfl, hi⟩⟩
  · cases h
  · cases h
  · cases ht
    refine ⟨g1, hi, fun W e => ?_⟩
    have f0 := ((hx.below e).cell 0).trans rfl
    go_enter Tryz.func79, Tryz.ntmps79
    go_wp2
    go_ret
    exact ⟨rfl, rfl⟩
theorem each_calls (a : Option Addr) (w : World) : Calls Tryz.prog 83 #[.pointer a] w fun e w' => e = .returned (.func (.func 151) #[] #[.pointer (some ⟨w.heap.size, 0, none⟩)]) ∧ w' = w.alloc (.cells #[.pointer a] 25) := by
  go_enter Tryz.func83, Tryz.ntmps83
  go_wp2_with fail
  go_ret
  exact ⟨rfl, rfl⟩
def Lists (w0 : World) (v : Value) (T : TypeId → Prop) (m : List LE) : Prop :=
  ∀ (n l : Nat) (J : Nat → World → Prop) (gb : Nat) (W : World), (∀ i W W', J i W → Ext W W' → J i W') → (∀ i W, J i W → Ext w0 W) → Tells T w0.heap.size l m J → isBlk W gb 25 #[v] → J 0 W →
    CallsIn Fence.wide n Tryz.prog 151 #[.func (.yield l) #[] #[], .pointer (some ⟨gb, 0, none⟩)] W fun e W' => (∃ v, e = .returned v) ∧ J m.length W'
theorem each_in {w0 : World} {T : TypeId → Prop} (hT : ¬ T 9) (o : Option Sp.T) (v : Value) (h : TreeAt w0 v o) (hg : Sp.GoodO o) (hd : ∀ x ∈ Sp.entriesO o, x.1.length ≤ 60) (K : KeysAt w0 2) :
    ∃ m : List LE, m.map (·.2.2) = Sp.entriesO o ∧ (∀ x ∈ m, Vers w0 x.1 x.2.2.2) ∧ Lists w0 v T m := by
  have tokZ : True := trivial
  cases o with
  | none =>
    refine ⟨[], rfl, (fun x h => by cases h), fun n l J gb W hJx hJ0 hY hb hJ => ?_⟩
    have RC := Lib.hid (root_calls none v W (h.ext (hJ0 _ _ hJ)) (K.ext (hJ0 _ _ hJ)))
    have JX := Lib.hid hJx
    have J0 := Lib.hid hJ
    have f0 := (hb.cell 0).trans rfl
    clear hJx hJ0 hY hb hJ h K hd hg
    refine callsIn_of_wp Tryz.func151 rfl trivial ?_ rfl
    simp only [Tryz.ntmps151, List.size_toArray, List.length_cons, List.length_nil, Nat.reduceAdd, Nat.reduceSub, Array.replicate_succ, Array.replicate_zero, List.push_toArray, List.append_toArray, List.nil_append, List.cons_append]
    gi_wp2_with fail
    refine ⟨trivial, (fun h => by cases h), callsIn_of (RC.out.mono ?_)⟩
    rintro e w1 ⟨g1, rfl, hi, hb1⟩
    obtain ⟨m1, hm1⟩ := list_of hi
    have h0 : m1 = [] := by
      have := list_entries hm1
      exact List.map_eq_nil_iff.1 this
    subst h0
    have JJ := Lib.hid (JX.out _ _ _ J0.out hb1)
    have AI := Lib.hid (all_in (w0 := w1) (T := T) hT hm1 (n - 1) [] (.slice none 0 0) l [] (fun i W => J i W ∧ Ext w1 W) 0 w1 ⟨fun h => absurd rfl h, List.Pairwise.nil, trivial⟩ (by decide) (fun i W W' h e => ⟨JX.out _ _ _ h.1 e, h.2.trans e⟩) (fun i W h => h.2) (fun i hi => absurd hi (Nat.not_lt_zero i)) (fun j h => absurd h (Nat.not_lt_zero j)) (fun x h => by cases h) (by decide) (fun s h => by cases h) (DirAt.nil _) ⟨JJ.out, Ext.refl _⟩)
    clear hi hb1 hm1 RC f0
    gi_wp2_with fail
    refine ⟨trivial, (fun h => by cases h), AI.out.mono ?_⟩
    rintro e w2 ⟨rfl, ⟨hj, _⟩, _⟩
    have J2 := Lib.hid hj
    clear hj
    gi_wp2_with fail
    go_end0
    exact ⟨⟨_, rfl⟩, J2.out⟩
  | some t =>
    obtain ⟨g, hi, hr⟩ := root_some t v w0 h
    obtain ⟨m, hm⟩ := list_of hi
    have hme := list_entries hm
    refine ⟨m, hme, list_vers hm, fun n l J gb W hJx hJ0 hY hb hJ => ?_⟩
    have RC := Lib.hid (hr W (hJ0 _ _ hJ))
    have f0 := (hb.cell 0).trans rfl
    have AI := Lib.hid fun W2 (e : Ext W W2) => all_in (T := T) hT hm (n - 1) [] (.slice none 0 0) l m J 0 W2 (hg.1 t rfl) (by
        have h1 : (Sp.entriesO (some t)).length ≤ 128 := hg.2
        rw [Sp.sizeT_len]
        exact Nat.le_trans h1 (by decide)) hJx hJ0 hY (fun j h => by rw [Nat.zero_add, List.getElem?_eq_getElem h]; rfl) (fun x hx => by
        have := hd x.2.2 (by rw [show Sp.entriesO (some t) = Sp.entries t from rfl, ← hme]; exact List.mem_map_of_mem hx)
        simpa using this) (by decide) (fun s h => by cases h) (DirAt.nil _) (hJx _ _ _ hJ e)
    clear hJx hJ0 hY hb hJ h K hd hg hm hme hi hr
    refine callsIn_of_wp Tryz.func151 rfl trivial ?_ rfl
    simp only [Tryz.ntmps151, List.size_toArray, List.length_cons, List.length_nil, Nat.reduceAdd, Nat.reduceSub, Array.replicate_succ, Array.replicate_zero, List.push_toArray, List.append_toArray, List.nil_append, List.cons_append]
    gi_wp2_with fail
    refine ⟨trivial, (fun h => by cases h), callsIn_of (RC.out.mono ?_)⟩
    rintro e w1 ⟨rfl, rfl⟩
    gi_wp2_with fail
    refine ⟨trivial, (fun h => by cases h), (AI.out _ (Ext.refl _)).mono ?_⟩
    rintro e w2 ⟨rfl, hj, _⟩
    rw [Nat.zero_add] at hj
    have J2 := Lib.hid hj
    clear hj
    gi_wp2_with fail
    go_end0
    exact ⟨⟨_, rfl⟩, J2.out⟩
end Go.Proofs.YtmlfnidckfeebaaGreatDoor
namespace Go.Proofs.YtmlfnidckfeebaaGreatDoor
open Go.RowKit Go.Shelf
attribute [local go_sem] yUpon strOf_toList Oper.semAt_some encL
namespace Sp
mutual
theorem ent_leaf : ∀ t, Ok t → ∀ e ∈ entries t, leaf e.2 = 0
  | .mk l k, h, e, he => by
    rw [entries] at he
    rcases List.mem_append.1 he with he | he
    · by_cases h0 : l = []
      · rw [if_pos h0] at he; cases he
      · rw [if_neg h0] at he
        obtain rfl := List.mem_singleton.1 he
        exact h.1 h0
    · exact entL_leaf k h.2.2 e he
theorem entL_leaf : ∀ k, OkL k → ∀ e ∈ entriesL k, leaf e.2 = 0
  | [], _, e, he => by cases he
  | (n, t) :: r, h, e, he => by
    rw [entriesL] at he
    rcases List.mem_append.1 he with he | he
    · obtain ⟨y, hy, rfl⟩ := List.mem_map.1 he
      exact ent_leaf t h.2.2.1 y hy
    · exact entL_leaf r h.2.2.2 e he
end
theorem told_fit {o : Option T} (h : GoodO o) : ∀ e ∈ entriesO o, e.2.length ≤ 1000000 ∧ ∀ u ∈ e.2, u.past.length ≤ 1000000 := fun e he => by
  cases o with
  | none => cases he
  | some t =>
    have l0 := ent_leaf t (h.1 t rfl) e he
    exact ⟨Nat.le_trans (leaf_ok l0).1 (by decide), fun u hu => Nat.le_trans ((leaf_fit fun _ => l0).2 u hu) (by decide)⟩
def told (o : Option T) : List DE := (entriesO o).map fun e => (joinP e.1, e.2)
end Sp
theorem tree_ptr {w : World} {v : Value} {o : Option Sp.T} (h : TreeAt w v o) : ∃ a, v = .pointer a := by
  rcases h with ⟨_, rfl⟩ | ⟨g, p, rfl, _⟩
  · exact ⟨_, rfl⟩
  · exact ⟨_, rfl⟩
def tellL (x : LE) : Sp.DE := (Sp.joinP x.2.2.1, x.2.2.2)
def Put (w : World) (g : Nat) (m : List LE) (i : Nat) (W : World) : Prop :=
  ∃ (v : Value) (mo : List (Option Addr × Nat × Sp.DE)), isBlk W g 22 #[v] ∧ W.ownsRow (w.heap.size + 1) 43 2 v i (entsC mo) ∧ mo.map (·.2.2) = (m.take i).map tellL ∧ (∀ x ∈ mo, OwnVersT W (.slice x.1 x.2.2.2.length x.2.1) x.2.2.2) ∧ Ext w W
theorem Put.keep {w : World} {g : Nat} {m : List LE} {i : Nat} {W W' : World} (h : Put w g m i W) (k : KB noT w.heap.size W W') : Put w g m i W' := by
  obtain ⟨v, mo, h1, h2, h3, h4, h5⟩ := h
  exact ⟨v, mo, k.row _ _ _ _ h1 (fun h => h), own_keep (fun h => h) h2 k, h3, fun x hx => (h4 x hx).keep (fun h => h) (fun h => h) k, Below.trans h5 k.below⟩
def EntsOwn (w : World) (B : Nat) (v : Value) (l : List Sp.DE) : Prop := ∃ mo : List (Option Addr × Nat × Sp.DE), mo.map (·.2.2) = l ∧ w.ownsRow B 43 2 v l.length (entsC mo) ∧ ∀ x ∈ mo, OwnVersT w (.slice x.1 x.2.2.2.length x.2.1) x.2.2.2
theorem EntsOwn.read {w : World} {B : Nat} {v : Value} {l : List Sp.DE} (h : EntsOwn w B v l) : ∃ A cap, v = .slice A l.length cap ∧ EntsAt w A l := by
  obtain ⟨mo, h3, h2, h4⟩ := h
  obtain ⟨A, cap, rfl, hc⟩ := own_read h2
  refine ⟨A, cap, rfl, mo, h3, hc, fun x hx => ?_⟩
  obtain ⟨A2, c2, e2, hv⟩ := (h4 x hx).read
  cases e2
  exact hv
theorem EntsOwn.keep {T : TypeId → Prop} (h0 : ¬ T 43) (h1 : ¬ T 71) (h2 : ¬ T 68) {b B : Nat} {w w' : World} {v : Value} {l : List Sp.DE} (h : EntsOwn w B v l) (k : KB T b w w') : EntsOwn w' B v l := by
  obtain ⟨mo, e1, e2, e3⟩ := h
  exact ⟨mo, e1, own_keep h0 e2 k, fun x hx => (e3 x hx).keep h1 h2 k⟩
theorem Put.own {w : World} {g : Nat} {m : List LE} {W : World} (h : Put w g m m.length W) : ∃ v, isBlk W g 22 #[v] ∧ EntsOwn W w.heap.size v (m.map tellL) := by
  obtain ⟨v, mo, h1, h2, h3, h4, h5⟩ := h
  rw [List.take_length] at h3
  exact ⟨v, h1, mo, h3, by rw [List.length_map]; exact own_lowT h2 (Nat.le_succ _), h4⟩
theorem KB.grown {T : TypeId → Prop} {B b n size : Nat} {w w' : World} {e : TypeId} {v : Value} {xs : List Value} (h : w.ownsRow b e size v n xs) (hT : T e) (hg : w.grownBy w' v.ownBlock) (hB : Below B w w') : KB T B w w' :=
  ⟨hB, fun k cs t f hk ht => (hg.block k (Array.getElem?_eq_some_iff.1 hk).1 (fun e2 => by
    rcases h.2 with ⟨hv, _⟩ | ⟨g, cap, cur, hv, _, hh, _⟩
    · rw [hv] at e2; cases e2
    · rw [hv] at e2
      have e3 : k = g := Option.some.inj e2
      rw [e3, hh] at hk
      injection hk with hk
      injection hk with _ h5
      exact ht (h5 ▸ hT))).trans hk⟩
theorem KB.set {T : TypeId → Prop} {B g i : Nat} {w : World} {t : TypeId} {cs : Array Value} (hx : isBlk w g t cs) (hT : T t) (hB : B ≤ g) (u : Value) : KB T B w (w.setCell ⟨g, i, none⟩ u) :=
  ⟨(Below.refl _ _).setCell hB _, fun k cs' t' f hk ht => (Below.heap_setCell _ _ _ _ (fun e => by
    rw [show k = g from e, show w.heap[g]? = _ from hx] at hk
    injection hk with hk
    injection hk with _ h5
    exact ht (h5 ▸ hT))).trans hk⟩
theorem KB.putO {T : TypeId → Prop} {B l : Nat} {W : World} {ob : Obj} (hB : B ≤ l) (h : W.heap[l]? = some ob) (ho : ob.isCells = false) (o : Obj) : KB T B W (W.putObj l o) :=
  ⟨⟨rfl, rfl, rfl, by simp, fun k hk => World.putObj_heap_other (by omega)⟩, fun i cs t f hi _ => (World.putObj_heap_other (fun e => by rw [e, h] at hi; cases hi; cases ho)).trans hi⟩
theorem others_ext {w w' : World} (h : Ext w w') : KeepsOthers w w' := ⟨h.size, fun k _ hk _ => (h.block k (Array.getElem?_eq_some_iff.1 hk).1).trans hk⟩
theorem others_grown {w w' : World} {b n size : Nat} {e : TypeId} {v : Value} {xs : List Value} (h : w.ownsRow b e size v n xs) (hg : w.grownBy w' v.ownBlock) : KeepsOthers w w' :=
  KeepsOthers.of_grownBy hg (fun j o e2 hj => by
    rcases h.2 with ⟨hv, _⟩ | ⟨g, cap, cur, hv, _, hh, _⟩
    · rw [hv] at e2; cases e2
    · rw [hv] at e2
      have e3 : g = j := Option.some.inj e2
      rw [← e3, hh] at hj
      cases hj
      rfl)
abbrev entT : TypeId → Prop := fun t => t = 22 ∨ t = 43
set_option maxRecDepth 100000 in
set_option maxHeartbeats 4000000 in
theorem entries_in (o : Option Sp.T) (v : Value) (w : World) (h : TreeAt w v o) (hg : Sp.GoodO o) (hd : ∀ x ∈ Sp.entriesO o, x.1.length ≤ 60) (K : KeysAt w 2) :
    CallsIn Fence.wide 3 Tryz.prog 27 #[v] w fun e w' => ∃ v', e = .returned v' ∧ EntsOwn w' w.heap.size v' (Sp.told o) ∧ Ext w w' := by
  obtain ⟨m, hm, hv, hL⟩ := each_in (T := entT) (by intro h; rcases h with h | h <;> cases h) o v h hg hd K
  have hlen : m.length ≤ 128 := by
    have := congrArg List.length hm
    rw [List.length_map] at this
    have h2 := hg.2
    omega
  have hfit : ∀ x ∈ m, x.2.2.2.length ≤ 1000000 ∧ ∀ u ∈ x.2.2.2, u.past.length ≤ 1000000 := fun x hx => by
    have hx2 : x.2.2 ∈ Sp.entriesO o := by rw [← hm]; exact List.mem_map_of_mem hx
    exact Sp.told_fit hg _ hx2
  have HM := Lib.hid hm
  have HV := Lib.hid hv
  have HL := Lib.hid hL
  have HF := Lib.hid hfit
  obtain ⟨a, rfl⟩ := tree_ptr h
  have EC := Lib.hid fun W => each_calls a W
  clear hm hv hL h hg hd K hfit
  refine callsIn_of_wp_marks Tryz.func27 rfl trivial ?_ rfl
  simp only [Tryz.ntmps27, List.size_toArray, List.length_cons, List.length_nil, Nat.reduceAdd, Nat.reduceSub, Array.replicate_succ, Array.replicate_zero, List.push_toArray, List.append_toArray, List.nil_append, List.cons_append]
  gi_wp2_with fail
  refine ⟨trivial, ?_⟩
  refine callsIn_of ((EC.out _).mono ?_)
  rintro e w1 ⟨rfl, hw1⟩
  obtain ⟨w2, hw2⟩ : ∃ w2, w2 = w1 := ⟨_, rfl⟩
  have X0 := Lib.hid (show isBlk w2 w.heap.size 22 #[.slice none 0 0] by rw [hw2, hw1]; exact (box_at w _ _).alloc _)
  have X1 := Lib.hid (show isBlk w2 (w.heap.size + 1) 25 #[.pointer a] by rw [hw2, hw1]; have := box_at (w.alloc (.cells #[.slice none 0 0] 22)) #[.pointer a] 25; rwa [World.size_alloc] at this)
  have E2 := Lib.hid (show Ext w w2 by rw [hw2, hw1]; exact (Ext.alloc w _).trans (Ext.alloc _ _))
  rw [← hw2]
  clear hw1 hw2
  gi_wp2_with fail
  refine range_keep (n := 3) entT (fun W => Ext w W) (B := w.heap.size) (by omega) E2.out.size (gf := 151) (lb := #[.pointer (some ⟨w.heap.size + 1, 0, none⟩)]) rfl (enters_of Tryz.func151 (by kernel_rfl) rfl)
    encL m (fun _ => rfl) ?hit (fun i W => Put w w.heap.size m i W) (fun i W W' h k => h.keep k) (fun i W h => by obtain ⟨_, _, _, _, _, _, h⟩ := h; exact h) ?h0 ?a1 ?assign ?body ?done
  case hit =>
    intro l J W hW hJx hJe hY h0
    exact HL.out 2 l J (w.heap.size + 1) W hJx hJe hY (X1.out.below hW) h0
  case h0 => exact ⟨_, [], X0.out, World.ownsRow_nil _ _ _ _, rfl, (fun x h => by cases h), E2.out⟩
  case assign =>
    intro l q x W K hK
    gi_wp2
    exact hK
  case body =>
    rintro l q i hi wr ⟨v, mo, h1, h2, h3, h4, h5⟩
    obtain ⟨x, hx⟩ : ∃ x, x = m[i] := ⟨_, rfl⟩
    have hxm : x ∈ m := by rw [hx]; exact List.getElem_mem hi
    have CP := Lib.hid (copiedT_calls x.2.2.2 x.1 x.2.1 wr.drew ((HV.out x hxm).ext h5.drew) (HF.out x hxm).1 (HF.out x hxm).2)
    have P1 := Lib.hid h1
    have O2 := Lib.hid h2
    have M3 := Lib.hid h3
    have V4 := Lib.hid h4
    have E5 := Lib.hid h5
    have XX := Lib.hid hx
    have i128 : i < 128 := by omega
    have tokA : True := trivial
    rw [← hx]
    clear h1 h2 h3 h4 h5 hx hxm
    gi_wp2_with fail
    refine wpIn_region_seqT (r := some l) (fun W' => Ext wr W') 3 6 (by kernel_rfl) (by kernel_rfl) (by kernel_rfl) (Ext.refl wr).drew ?_
    simp only [List.take_succ_cons, List.take_zero, List.drop_succ_cons, List.drop_zero]
    repeat (first
      | (refine floatT_step (fun K hK => ?_)
         apply Exists.intro
         refine ⟨Or.inl ⟨rfl, fun W hS => ?_⟩, ?_⟩
         · have hz : Ext wr W := hS; have f0 := ((P1.out.below hz).cell 0).trans rfl
           go_simp
           first | done | exact rfl
         go_simp
         refine hK _ ?_
         clear hK K))
    refine floatT_nil ?_
    refine seqT_succ (n := 2) (fun Q' hQ' => ?_)
    go_wp2_with fail
    refine CP.out.mono ?_
    rintro e w8 ⟨v8, rfl, hO8, hb8⟩
    obtain ⟨A8, c8, rfl, hV8⟩ := hO8.read
    have O8 := Lib.hid hO8
    have B8 := Lib.hid (show Ext wr w8 from Below.trans (Below.refl _ _).drew hb8)
    clear hO8 hV8 hb8
    go_wp2
    refine hQ' _ _ B8.out ?_
    clear hQ'
    refine seqT_succ (n := 1) (fun Q' hQ' => ?_)
    go_wp2_with fail
    refine hQ' _ _ B8.out ?_
    clear hQ'
    refine seqT_succ (n := 0) (fun Q' hQ' => ?_)
    go_wp2_with fail
    refine hQ' _ _ (Below.alloc B8.out B8.out.size _) ?_
    clear hQ'
    refine seqT_zero ?_
    go_wp2_with (have _t := tokA; at_builtin; refine app_new appEnt rfl _ _ rfl (w.heap.size + 1) v i _ rfl (own_ext O2.out B8.out) #[.string (strOf (Sp.joinP x.2.2.1)), .slice A8 x.2.2.2.length c8] 43 1 rfl rfl (by intro u hu; simp at hu; rcases hu with rfl | rfl <;> rfl) (by decide) (by omega) (by have := P1.out.lt; have := B8.out.size; omega) ?_; intro g6 cap6 w10 hown10 hgr10 hb10 hbg10; have O10 := Lib.hid hown10; have G10 := Lib.hid hgr10; have B10 := Lib.hid hb10; have Z10 := Lib.hid (show isBlk w10 w.heap.size 22 #[v] from (hb10.block _ (Nat.lt_succ_self _)).trans (P1.out.below B8.out)); have k0 := (Z10.out.cell 0).trans rfl; have k1 := Z10.out.frozen 0; clear tokA _t hown10 hgr10 hb10 hbg10)
    refine ⟨rfl, ?_⟩
    have KA := Lib.hid (show KB entT w.heap.size wr w10 from (KB.ext E5.out.size B8.out).trans (KB.grown (own_ext O2.out B8.out) (.inr rfl) G10.out (B10.out.mono (Nat.le_succ _))))
    have KO := Lib.hid (show KeepsOthers wr w10 from (others_ext B8.out).trans (others_grown (own_ext O2.out B8.out) G10.out))
    have hv' : ∀ y ∈ mo ++ [(A8, c8, tellL x)], OwnVersT w10 (.slice y.1 y.2.2.2.length y.2.1) y.2.2.2 := fun y hy => by
      rcases List.mem_append.1 hy with h | h
      · exact (V4.out y h).keep (by intro h; rcases h with h | h <;> cases h) (by intro h; rcases h with h | h <;> cases h) KA.out
      · obtain rfl := List.mem_singleton.1 h
        exact O8.out.keep (by intro h; rcases h with h | h <;> cases h) (by intro h; rcases h with h | h <;> cases h) (KB.grown (T := entT) (B := w.heap.size) (own_ext O2.out B8.out) (.inr rfl) G10.out (B10.out.mono (Nat.le_succ _)))
    have HV' := Lib.hid hv'
    clear hv'
    gi_wp2_with fail
    have ks : KB entT w.heap.size w10 (w10.setCell ⟨w.heap.size, 0, none⟩ (.slice (some ⟨g6, 0, none⟩) (i + 1) cap6)) := KB.set Z10.out (.inl rfl) (Nat.le_refl _) _
    refine ⟨KO.out.trans (KeepsOthers.setCell _ _ _), KA.out.trans ks, _, mo ++ [(A8, c8, tellL x)], Z10.out.put 0 _ rfl, ?_, ?_, fun y hy => ?_, ?_⟩
    · rw [entsC_snoc]
      exact own_far O10.out (fun e => by
        have e2 : g6 = w.heap.size := Option.some.inj e
        have := (own_off O10.out) _ rfl
        simp only at this
        omega) _
    · rw [List.map_append, M3.out, List.take_succ_eq_append_getElem hi, List.map_append, XX.out]
      rfl
    · exact (HV'.out y hy).keep (by intro h; rcases h with h | h <;> cases h) (by intro h; rcases h with h | h <;> cases h) ks
    · exact Below.trans (Below.trans E5.out KA.out.below) ks.below
  case done =>
    rintro D W hD hP hK
    have TM := Lib.hid (show m.map tellL = Sp.told o by
      unfold Sp.told
      rw [← HM.out, List.map_map]
      rfl)
    have LM := Lib.hid (show m.length = (Sp.told o).length by rw [← TM.out, List.length_map])
    have EW := Lib.hid (show Ext w W by obtain ⟨_, _, _, _, _, _, h⟩ := hP; exact h)
    obtain ⟨v, h1, hE⟩ := hP.own
    rw [TM.out] at hE
    have k0 := (h1.cell 0).trans rfl
    have KD := Lib.hid (show KB noT w.heap.size W (W.putObj D (.deferred none)) from KB.putO (by have := E2.out.size; omega) hK rfl _)
    have HE := Lib.hid hE
    clear h1 hE
    gi_wp2_with fail
    refine ⟨by simp, .inl ⟨_, _, rfl, run_takeDeferred hK, ?_⟩⟩
    refine ⟨_, results_tmp rfl _ _ _, ?_⟩
    first
      | exact ⟨v, rfl, HE.out.keep (fun h => h) (fun h => h) (fun h => h) KD.out, Below.trans EW.out KD.out.below⟩
      | exact ⟨⟨v, rfl⟩, HE.out.keep (fun h => h) (fun h => h) (fun h => h) KD.out, Below.trans EW.out KD.out.below⟩
theorem entown_calls (o : Option Sp.T) (v : Value) (w : World) (h : TreeAt w v o) (hg : Sp.GoodO o) (hd : ∀ x ∈ Sp.entriesO o, x.1.length ≤ 60) (K : KeysAt w 2) :
    Calls Tryz.prog 27 #[v] w fun e w' => ∃ v', e = .returned v' ∧ EntsOwn w' w.heap.size v' (Sp.told o) ∧ Ext w w' :=
  callsIn_wide.1 (entries_in o v w h hg hd K)
theorem entries_calls (o : Option Sp.T) (v : Value) (w : World) (h : TreeAt w v o) (hg : Sp.GoodO o) (hd : ∀ x ∈ Sp.entriesO o, x.1.length ≤ 60) (K : KeysAt w 2) :
    Calls Tryz.prog 27 #[v] w fun e w' => ∃ A cap, e = .returned (.slice A (Sp.told o).length cap) ∧ EntsAt w' A (Sp.told o) ∧ Ext w w' :=
  (entown_calls o v w h hg hd K).mono (by
    rintro e w' ⟨v', rfl, hO, hb⟩
    obtain ⟨A, cap, rfl, hE⟩ := hO.read
    exact ⟨A, cap, rfl, hE, hb⟩)
end Go.Proofs.YtmlfnidckfeebaaGreatDoor
namespace Go.Proofs.YtmlfnidckfeebaaGreatDoor
open Go.RowKit Go.Shelf
attribute [local go_sem] yUpon strOf_toList
abbrev E3 := Option Addr × Nat × Sp.DE
namespace Sp
theorem bad_parts {p : Bs} (h : check p ≠ 0) : parts p = [] := by
  unfold check at h
  split at h
  · rename_i h1
    unfold parts
    rw [if_pos h1]
  · split at h
    · rename_i h2; exact List.eq_nil_of_length_eq_zero h2
    · exact absurd rfl h
theorem split_app (s t : Bs) : split (s ++ 47 :: t) = split s ++ split t := by
  induction s with
  | nil => rw [List.nil_append]; simp [split]
  | cons c r ih =>
    rw [List.cons_append]
    by_cases h : c = 47
    · rw [split, if_pos h, ih, split, if_pos h]; rfl
    · obtain ⟨a, l, e⟩ : ∃ a l, split r = a :: l := by
        cases e : split r with
        | nil => exact absurd e (split_ne r)
        | cons a l => exact ⟨a, l, rfl⟩
      rw [split, if_neg h, ih, split, if_neg h, e]; rfl
theorem join_app : ∀ (a b : List Bs), a ≠ [] → b ≠ [] → joinP (a ++ b) = joinP a ++ 47 :: joinP b
  | [], _, h, _ => absurd rfl h
  | [s], [], _, h => absurd rfl h
  | [s], b :: q, _, _ => by rw [List.singleton_append, joinP, joinP]
  | s :: t :: r, b, _, hb => by
    have ih := join_app (t :: r) b (by simp) hb
    rw [List.cons_append, List.cons_append, joinP, ← List.cons_append, ih, joinP]
    simp
theorem under_no {p d : Bs} (h : check p ≠ 0) : under p d = false := by
  unfold under
  rw [bad_parts h]
  simp
theorem under_root {p : Bs} (h : check p = 0) : under p [] = true := by
  have h1 := (check_parts h).1
  have h2 := split_ne p
  unfold under
  rw [parts_empty, h1]
  simp [h2, List.length_pos_iff]
theorem under_dir {p d : Bs} (h : check p = 0) (hd : check d = 0) : under p d = Lib.hasPrefix p (d ++ [47]) := by
  have h1 := (check_parts h).1
  have h2 := (check_parts hd).1
  have n1 := split_ne p
  have n2 := split_ne d
  unfold under
  rw [h1, h2]
  unfold Lib.hasPrefix
  rw [Bool.eq_iff_iff, List.isPrefixOf_iff_prefix]
  simp only [ne_eq, n1, n2, not_false_eq_true, decide_true, Bool.true_and, Bool.and_eq_true, decide_eq_true_eq, Bool.or_true]
  constructor
  · rintro ⟨hl, ht⟩
    have hp : split p = split d ++ (split p).drop (split d).length := by
      conv => lhs; rw [← List.take_append_drop (split d).length (split p), ht]
    have hne : (split p).drop (split d).length ≠ [] := by
      intro e
      have := congrArg List.length e
      rw [List.length_drop] at this
      simp at this
      omega
    have := congrArg joinP hp
    rw [join_split, join_app _ _ n2 hne, join_split] at this
    exact ⟨joinP ((split p).drop (split d).length), by rw [List.append_assoc]; exact this.symm⟩
  · rintro ⟨t, rfl⟩
    rw [List.append_assoc, List.singleton_append, split_app]
    have := split_ne t
    refine ⟨by rw [List.length_append]; have := List.length_pos_iff.2 this; omega, by rw [List.take_left]⟩
theorem under_else {p d : Bs} (h : check d ≠ 0) (hd : d ≠ []) : under p d = false := by
  unfold under
  rw [bad_parts h]
  simp [hd]
end Sp
set_option maxRecDepth 100000 in
set_option maxHeartbeats 4000000 in
theorem punder_calls (p d : Sp.Bs) (w : World) (M : MaxAt w) :
    Calls Tryz.prog 117 #[.string (strOf p), .string (strOf d)] w fun e w' => e = .returned (.bool (Sp.under p d)) ∧ Ext w w' := by
  have PC := Lib.hid (show ∀ s W, Ext w W → Calls Tryz.prog 104 #[.string (strOf s)] W fun e w' => e = .returned (.int .i64 (Sp.check s)) ∧ Ext W w' from fun s W e => by
    have := pcheck_calls (strOf s) W (max_kept M e)
    rw [strOf_data] at this
    exact this)
  have HP := Lib.hid (show ∀ W, Calls Tryz.prog 183 #[.string (strOf p), .string (strOf d ++ ⟨#[47]⟩)] W fun e w' => e = .returned (.bool (Lib.hasPrefix p (d ++ [47]))) ∧ w' = W from fun W => by
    have := Tryz.strings_HasPrefix (strOf p) (strOf d ++ ⟨#[47]⟩) W
    rw [strOf_data, show (strOf d ++ ⟨#[47]⟩ : ByteArray).data.toList = d ++ [47] by simp [strOf]] at this
    exact this)
  go_enter Tryz.func117, Tryz.ntmps117
  go_wp2_with fail
  refine (PC.out p w (Ext.refl _)).mono ?_
  rintro e w1 ⟨rfl, hb1⟩
  have B1 := Lib.hid hb1
  clear hb1
  by_cases hp : Sp.check p = 0
  · rw [hp]
    by_cases hd : d = []
    · subst hd
      have UR := Lib.hid (Sp.under_root hp)
      have c1 : (([] : List UInt8).isEmpty) = true := rfl
      clear hp
      go_wp2
      go_ret
      exact ⟨by rw [UR.out]; rfl, B1.out⟩
    · have c5 : d.isEmpty = false := by cases d with | nil => exact absurd rfl hd | cons _ _ => rfl
      have c6 : (d == []) = false := by rw [beq_eq_false_iff_ne]; exact hd
      by_cases hc : Sp.check d = 0
      · have UD := Lib.hid (Sp.under_dir hp hc)
        have HC := Lib.hid hc
        have z1 : ¬ 9223372036854775807 < (strOf d).size + 1 := by rw [strOf_size]; have := (Sp.check_parts hc).2.1; omega
        clear hp hd hc
        go_wp2_with fail
        refine (PC.out d w1 B1.out).mono ?_
        rintro e w2 ⟨rfl, hb2⟩
        have B2 := Lib.hid (B1.out.trans hb2)
        rw [HC.out]
        clear hb2
        go_wp2_with fail
        refine (HP.out w2).mono ?_
        rintro e w3 ⟨rfl, rfl⟩
        go_wp2
        go_ret
        exact ⟨by rw [UD.out]; rfl, B2.out⟩
      · have UE := Lib.hid (Sp.under_else (p := p) hc hd)
        have h0 : (Sp.check d == 0) = false := by rw [beq_eq_false_iff_ne]; exact hc
        clear hp hd
        go_wp2_with fail
        refine (PC.out d w1 B1.out).mono ?_
        rintro e w2 ⟨rfl, hb2⟩
        have B2 := Lib.hid (B1.out.trans hb2)
        clear hb2
        go_wp2
        go_ret
        exact ⟨by rw [UE.out]; rfl, B2.out⟩
  · have UB := Lib.hid (Sp.under_no (d := d) hp)
    go_wp2
    go_ret
    exact ⟨by rw [UB.out]; rfl, B1.out⟩
end Go.Proofs.YtmlfnidckfeebaaGreatDoor
namespace Go.Proofs.YtmlfnidckfeebaaGreatDoor
open Go.RowKit
section
variable {P : Program} {md : Region.Mode} {ops : Array Oper} {T : World → Prop}
def planB (md : Region.Mode) (ops : Array Oper) (m : Nat) (B : Array Bool → Bool) : List (Bool × Nat) → Array Bool → Bool
  | [], listed => B listed
  | (true, k) :: r, listed => decide (k < m) && (Region.ready md ops listed).contains k && Region.free md ops listed k && planB md ops m B r (listed.setIfInBounds k true)
  | (false, k) :: r, listed => decide (k < m) && decide (Region.ready md ops listed = [k]) && planB md ops m B r (listed.setIfInBounds k true)
def lexPlanB (md : Region.Mode) (ops : Array Oper) (m : Nat) (plan : List (Bool × Nat)) : Bool :=
  Region.noSelect ops && decide (m < ops.size) && decide (plan.length = m) && sinkFrom md ops 0 m && behindB md ops m && planB md ops m (Region.seqB md ops (ops.size - m) m) plan (Array.replicate ops.size false)
def wpPlanT (P : Program) (ops : Array Oper) (T : World → Prop) (Q : Exit → Act → World → Prop) (tl : List Oper) : List (Bool × Nat) → Act → World → Prop
  | [], a, w => wpList P ops (goesOn Q) tl a w
  | (true, k) :: r, a, w => ∃ o v, ops[k]? = some o ∧ YieldsT P ops T o v a ∧ wpPlanT P ops T Q tl r (a.put o.dst v) w
  | (false, k) :: r, a, w => ∃ o, ops[k]? = some o ∧ wpList P ops (fun e a w => e = .normal ∧ T w ∧ wpPlanT P ops T Q tl r a w) [o] a w
theorem plan_nil {Q : Exit → Act → World → Prop} {tl : List Oper} {a : Act} {w : World} (h : wpList P ops (goesOn Q) tl a w) : wpPlanT P ops T Q tl [] a w := h
theorem plan_float {Q : Exit → Act → World → Prop} {tl : List Oper} {k : Nat} {r : List (Bool × Nat)} {a : Act} {w : World} {o : Oper} (h0 : ops[k]? = some o)
    (h : ∀ K : Act → Prop, (∀ a, wpPlanT P ops T Q tl r a w → K a) → ∃ v, YieldsT P ops T o v a ∧ K (a.put o.dst v)) : wpPlanT P ops T Q tl ((true, k) :: r) a w := by
  obtain ⟨v, h1, h2⟩ := h _ fun _ h => h
  exact ⟨o, v, h0, h1, h2⟩
theorem plan_only {Q : Exit → Act → World → Prop} {tl : List Oper} {k : Nat} {r : List (Bool × Nat)} {a : Act} {w : World} {o : Oper} (h0 : ops[k]? = some o)
    (h : ∀ Q' : Exit → Act → World → Prop, (∀ a w, T w → wpPlanT P ops T Q tl r a w → Q' .normal a w) → wpList P ops Q' [o] a w) : wpPlanT P ops T Q tl ((false, k) :: r) a w :=
  ⟨o, h0, h _ fun _ _ h1 h2 => ⟨rfl, h1, h2⟩⟩
theorem wpAnyT_of_plan {m : Nat} {Q : Exit → Act → World → Prop} (hsel : Region.noSelect ops = true) (hs : sinkFrom md ops 0 m = true) (hc : behindB md ops m = true) (hms : m < ops.size) (tl : List Oper) (htl : ∀ j, tl[j]? = ops[m + j]?) :
    ∀ (plan : List (Bool × Nat)) (listed : Array Bool) (a : Act) (w : World), T w → HeadInv md ops m listed →
      planB md ops m (Region.seqB md ops tl.length m) plan listed = true → wpPlanT P ops T Q tl plan a w → wpAnyT P md ops T m (goesOn Q) (plan.length + tl.length) listed a w
  | [], listed, a, w, _, _, hB, h => by
    rw [List.length_nil, Nat.zero_add]
    exact wpAnyT_of_seq tl m listed a w (Nat.le_refl _) htl hB h
  | (true, k) :: r, listed, a, w, hT, inv, hB, h => by
    obtain ⟨o, v, h0, hy, hK⟩ := h
    simp only [planB, Bool.and_eq_true, decide_eq_true_eq] at hB
    obtain ⟨⟨⟨hk, hr⟩, hf⟩, hB'⟩ := hB
    have hr' : k ∈ Region.ready md ops listed := by simpa using hr
    rw [List.length_cons, show r.length + 1 + tl.length = (r.length + tl.length) + 1 by omega]
    exact wpAnyT_first h0 (Region.noSelect_spec hsel) (fun c a w h => by cases h.1) (I := HeadInv md ops m) (fun listed j inv hj hjm => inv.set hj hjm)
      (fun listed inv hun t ht => tail_waits3 hs hc hms inv _ k rfl (Nat.zero_le _) hk hun t ht) (r.length + tl.length) listed a w hT inv (Region.free_spec h0 hf) hr' hy
      (wpAnyT_of_plan hsel hs hc hms tl htl r _ _ w hT (inv.set hr' hk) hB' hK)
  | (false, k) :: r, listed, a, w, hT, inv, hB, h => by
    obtain ⟨o, h0, hK⟩ := h
    simp only [planB, Bool.and_eq_true, decide_eq_true_eq] at hB
    obtain ⟨⟨hk, hr⟩, hB'⟩ := hB
    have hr' : k ∈ Region.ready md ops listed := by rw [hr]; exact List.mem_singleton.2 rfl
    rw [List.length_cons, show r.length + 1 + tl.length = (r.length + tl.length) + 1 by omega]
    refine ⟨fun h1 => (by rw [hr] at h1; cases h1), fun i hi => ?_⟩
    rw [hr] at hi
    obtain rfl : i = k := by simpa using hi
    exact wpOp_of_one h0 (fun e a w h => h.1) (fun a2 w2 h2 => ⟨fun _ => h2.2.1, wpAnyT_of_plan hsel hs hc hms tl htl r _ a2 w2 h2.2.1 (inv.set hr' hk) hB' h2.2.2⟩) hK
theorem wp_region_planT (T : World → Prop) {id : Nat} {Q : Exit → Act → World → Prop} {a : Act} {w : World} {l : List Oper} (m : Nat) (plan : List (Bool × Nat)) (hm : P.follows .mixedOrders = true) (hB : lexPlanB .any l.toArray m plan = true)
    (hT : T w.drew) (h : wpPlanT P l.toArray T Q (l.drop m) plan a w.drew) : (Code.region id l.toArray true).wp P Q a w := by
  simp only [lexPlanB, Bool.and_eq_true, decide_eq_true_eq] at hB
  obtain ⟨⟨⟨⟨⟨hsel, hms⟩, hpl⟩, hs⟩, hc⟩, hlex⟩ := hB
  have hms' : m < l.length := by simpa using hms
  have hdl : (l.drop m).length = l.toArray.size - m := by simp
  refine Code.wp_mono (Q := goesOn Q) (fun e a w h => by obtain ⟨rfl, h⟩ := h; exact h) (wp_region_any hm (wpAny_of_T (T := T) (m := m) _ _ _ _ ?_))
  have := wpAnyT_of_plan (P := P) (T := T) (Q := Q) hsel hs hc hms (l.drop m) (fun j => by simp [List.getElem?_drop]) plan (Array.replicate l.toArray.size false) a w.drew hT
    ⟨by simp, fun j oj _ hl => (by rw [getD_replicate_false] at hl; cases hl), fun t _ ht => getD_in (by simpa using ht) (getD_replicate_false _ _)⟩ (by rw [hdl]; exact hlex) h
  rw [hpl, hdl, show m + (l.toArray.size - m) = l.toArray.size by omega] at this
  exact this
end
end Go.Proofs.YtmlfnidckfeebaaGreatDoor
namespace Go.Proofs.YtmlfnidckfeebaaGreatDoor
open Go.RowKit Go.Shelf
attribute [local go_sem] yUpon strOf_toList
set_option maxRecDepth 100000 in
theorem isnan_int (x : Int) (w : World) : Calls Tryz.prog 165 #[.int .i64 x] w fun e w' => e = .returned (.bool false) ∧ w = w' := by
  have h : (x != x) = false := by simp
  go_enter Tryz.func165, Tryz.ntmps165
  go_wp2
  go_ret
  exact ⟨rfl, rfl⟩
theorem results_cell_pair {P : Program} {fn : Func} {p u : Tmp} {ty : TypeId} (h : fn.results = #[.cell p ty, .tmp u]) (tmps : Array Value) (w : World) (g : Nat) (t : TypeId) (cs : Array Value) (d : TypeDesc)
    (hp : tmps.getD p undef = .pointer (some ⟨g, 0, none⟩)) (hg : isBlk w g t cs) (hu : P.underlying ty = some d) (hd : (match d with | .struct _ | .array _ _ => true | _ => false) = true) (hi : (P.info? ty).map (·.size) = some cs.size) :
    (results fn tmps).run P w = .ok (.tuple #[.agg cs, tmps.getD u undef]) w := by
  rw [results_cell_tmp h, hp]
  simp only [asAddr, Sem.run_pure, Result.andThen_ok]
  rw [run_loadVar_row w g t ty cs (0, 0) d hg hu hd hi]
  rfl
abbrev verL (A : Option Addr) (c : Nat) (x : Sp.Ver) : Array Value := #[.int .i64 x.dot.1, .int .i64 x.dot.2, .slice A x.past.length c, .bool x.dead, .string (strOf x.data)]
end Go.Proofs.YtmlfnidckfeebaaGreatDoor
namespace Go.Proofs.YtmlfnidckfeebaaGreatDoor
open Go.RowKit
namespace Sp
def winsK (a b : Ver) : Bool := decide (b.dot.2 < a.dot.2) || (decide (a.dot.2 = b.dot.2) && decide (b.dot.1 < a.dot.1))
def wins (a b : Ver) : Bool := if a.dead = b.dead then winsK a b else b.dead
def best : Ver → List Ver → Ver
  | b, [] => b
  | b, v :: r => best (if wins v b = true then v else b) r
def winner (l : List Ver) : Option Ver := match live l with
  | [] => none
  | x :: r => some (best x r)
def rbest (x : List Ver) : Option Ver := x.find? fun e => !(x.any fun k => wins k e)
theorem winsK_iff (a b : Ver) : winsK a b = true ↔ b.dot.2 < a.dot.2 ∨ (a.dot.2 = b.dot.2 ∧ b.dot.1 < a.dot.1) := by simp [winsK]
theorem wins_live {a b : Ver} (ha : a.dead = false) (hb : b.dead = false) : wins a b = winsK a b := by rw [wins, ha, hb, if_pos rfl]
theorem best_inv : ∀ (r pre : List Ver) (b : Ver) (post : List Ver), (∀ x ∈ b :: r, x.dead = false) → (∀ x ∈ pre, winsK b x = true) → (∀ x ∈ post, ¬ winsK x b = true) →
    (best b r).dead = false ∧ ∃ pre' post', pre ++ b :: (post ++ r) = pre' ++ best b r :: post' ∧ (∀ x ∈ pre', winsK (best b r) x = true) ∧ ∀ x ∈ post', ¬ winsK x (best b r) = true
  | [], pre, b, post, hd, h1, h2 => ⟨hd b (List.mem_cons_self ..), pre, post, by rw [List.append_nil]; rfl, h1, h2⟩
  | v :: r, pre, b, post, hd, h1, h2 => by
    have hb := hd b (List.mem_cons_self ..)
    have hv := hd v (List.mem_cons_of_mem _ (List.mem_cons_self ..))
    have hr : ∀ x ∈ r, x.dead = false := fun x hx => hd x (List.mem_cons_of_mem _ (List.mem_cons_of_mem _ hx))
    rw [best, wins_live hv hb]
    by_cases hw : winsK v b = true
    · rw [if_pos hw]
      obtain ⟨k0, p, q, k1, k2, k3⟩ := best_inv r (pre ++ b :: post) v [] (fun x hx => (List.mem_cons.1 hx).elim (fun e => by rw [e]; exact hv) (hr x)) (fun x hx => by
        rcases List.mem_append.1 hx with h | h
        · have := h1 x h
          rw [winsK_iff] at *
          omega
        · rcases List.mem_cons.1 h with rfl | h
          · exact hw
          · have := h2 x h
            rw [winsK_iff] at *
            omega) (fun x h => by cases h)
      refine ⟨k0, p, q, ?_, k2, k3⟩
      rw [← k1]
      simp
    · rw [if_neg hw]
      obtain ⟨k0, p, q, k1, k2, k3⟩ := best_inv r pre b (post ++ [v]) (fun x hx => (List.mem_cons.1 hx).elim (fun e => by rw [e]; exact hb) (hr x)) h1 (fun x hx => by
        rcases List.mem_append.1 hx with h | h
        · exact h2 x h
        · rw [List.mem_singleton.1 h]; exact hw)
      refine ⟨k0, p, q, ?_, k2, k3⟩
      rw [← k1]
      simp
theorem live_alive (l : List Ver) : ∀ x ∈ live l, x.dead = false := fun x hx => by
  have := (List.mem_filter.1 hx).2
  simpa using this
theorem rbest_best (x : Ver) (r : List Ver) (hd : ∀ y ∈ x :: r, y.dead = false) : rbest (x :: r) = some (best x r) := by
  obtain ⟨k0, p, q, k1, k2, k3⟩ := best_inv r [] x [] hd (fun y h => by cases h) (fun y h => by cases h)
  rw [List.nil_append, List.nil_append] at k1
  have hd2 : ∀ y ∈ p ++ best x r :: q, y.dead = false := by rw [← k1]; exact hd
  unfold rbest
  rw [k1]
  obtain ⟨b, hb⟩ : ∃ b, b = best x r := ⟨_, rfl⟩
  rw [← hb] at k0 k2 k3 hd2 ⊢
  refine List.find?_eq_some_iff_append.2 ⟨?_, p, q, rfl, fun y hy => ?_⟩
  · have : ((p ++ b :: q).any fun k => wins k b) = false := by
      rw [List.any_eq_false]
      intro y hy
      rw [wins_live (hd2 y hy) k0]
      rcases List.mem_append.1 hy with h | h
      · have := k2 y h
        rw [winsK_iff] at *
        omega
      · rcases List.mem_cons.1 h with rfl | h
        · rw [winsK_iff]; omega
        · exact k3 y h
    rw [this]; rfl
  · have : ((p ++ b :: q).any fun k => wins k y) = true := by
      rw [List.any_eq_true]
      refine ⟨b, by simp, ?_⟩
      rw [wins_live k0 (hd2 y (List.mem_append_left _ hy))]
      exact k2 y hy
    rw [this]; rfl
theorem rbest_winner (l : List Ver) : rbest (live l) = winner l := by
  have := live_alive l
  unfold winner
  cases h : live l with
  | nil => rfl
  | cons x r => rw [h] at this; exact rbest_best x r this
theorem winner_some {l : List Ver} : (winner l).isSome = decide (live l ≠ []) := by
  unfold winner
  cases live l <;> simp
end Sp
end Go.Proofs.YtmlfnidckfeebaaGreatDoor
