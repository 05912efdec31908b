/- Walks: versions that nobody else has: each of their rows is of its own type. Walks: each: a tree's own range. Walks: Entries: all paths and leaves of a tree. Plain and walks: which paths are below a directory, as the program tells. What is seen of a tree is a tree; a tree's entries with whole paths: plain. Walks: texts that are the same; the first path behind a text; what holds of a tree and the document's list. Walks, plain: Count is the document's; what is listed behind the last path; what is below a directory, in parts. Numbers as bytes are read as they were written, and written as they were read: plain. Nodes, plain: the bytes of a node tell the node. -/
import Derived.Test.YtmlfnidckfeebaaGreatDoorP022
import Derived.Test.YtmlfnidckfeebaaGreatDoorP033
namespace Go.Proofs.YtmlfnidckfeebaaGreatDoor
open Go.RowKit Go.Shelf
attribute [local go_sem] yUpon
theorem OwnVersT.read {w : World} {v : Value} {l : List Sp.Ver} (h : OwnVersT w v l) : ∃ A cap, v = .slice A l.length cap ∧ Vers w A l := by
  obtain ⟨m, h1, h2, h3⟩ := h
  obtain ⟨A, cap, hv, hc⟩ := own_read h2
  refine ⟨A, cap, hv, m, h1, hc, fun x hx => ⟨?_, (h3 x hx).2⟩⟩
  obtain ⟨A2, c2, e2, hd⟩ := own_read (h3 x hx).1
  cases e2
  exact hd
set_option maxRecDepth 100000 in
set_option maxHeartbeats 4000000 in
theorem copiedT_calls (l : List Sp.Ver) (A : Option Addr) (cap : Nat) (w : World) (hV : Vers w A l) (hl : l.length ≤ 1000000) (hp : ∀ v ∈ l, v.past.length ≤ 1000000) :
    Calls Tryz.prog 84 #[.slice A l.length cap] w fun e w' => ∃ v, e = .returned v ∧ OwnVersT w' v l ∧ Ext w w' := by
  obtain ⟨m, hm, hc, hps⟩ := hV
  have hml : m.length = l.length := by rw [← hm]; simp
  have CV := Lib.hid (cloneVer (versC m) l.length cap A w hc (by rw [versC_len, hml]) (versC_one m) (by omega))
  go_enter Tryz.func84, Tryz.ntmps84
  go_wp2_with fail
  refine CV.out.mono ?_
  rintro e w1 ⟨v1, rfl, hO, hb1⟩
  rcases own_form hO with ⟨rfl, hl0, _⟩ | ⟨gv, cv, rfl, hgv, hgl⟩
  · have hl0' : l = [] := List.eq_nil_of_length_eq_zero hl0
    subst hl0'
    go_wp2
    go_loopw [9] (fun v9 wr => v9 = .int .i64 0 ∧ wr = w1) (fun _ _ => 0)
    case atStart => exact ⟨rfl, rfl⟩
    case round =>
      obtain ⟨rfl, rfl⟩ := hrel
      go_wp2
      go_ret
      exact ⟨_, rfl, ⟨[], rfl, World.ownsRow_nil _ _ _ _, fun _ h => by cases h⟩, hb1⟩
  · have HM := Lib.hid hm
    have HPS := Lib.hid hps
    have HO := Lib.hid hO
    have HB1 := Lib.hid hb1
    clear hO hb1 hc hm hps
    go_wp2
    go_loopw [9] (fun v9 wr => ∃ (k : Nat) (m' : List (Option Addr × Nat × Sp.Ver)), k ≤ l.length ∧ v9 = .int .i64 k ∧ m'.map (·.2.2) = l ∧ wr.ownsRow w.heap.size 71 5 (.slice (some ⟨gv, 0, none⟩) l.length cv) l.length (versC m') ∧
      (∀ i (h : i < m'.length), (i < k → (∀ a, m'[i].1 = some a → gv < a.block) ∧ PastT wr m'[i]) ∧ (k ≤ i → Past w m'[i].1 m'[i].2.2)) ∧ Ext w wr ∧ gv < wr.heap.size) (fun v9 _ => l.length - (intOf v9).toNat)
    case atStart => exact ⟨0, m, Nat.zero_le _, rfl, HM.out, HO.out, fun i h => ⟨fun h0 => by omega, fun _ => HPS.out _ (List.getElem_mem h)⟩, HB1.out, hgl⟩
    case round =>
      obtain ⟨k, m', hk, rfl, hmm, hO, hP, hb, hgw⟩ := hrel
      have hml' : m'.length = l.length := by rw [← hmm]; simp
      by_cases hlt : k < l.length
      · have hkm : k < m'.length := by omega
        obtain ⟨c2, f2, hBg, _⟩ := own_isBlk hO (k * 5 + 2) _ ((versC_get m' k 2 hkm (by decide)).trans rfl)
        have pk := (hP k hkm).2 (Nat.le_refl _)
        have hpl : m'[k].2.2.past.length ≤ 1000000 := hp _ (by rw [← hmm]; exact List.mem_map.2 ⟨m'[k], List.getElem_mem hkm, rfl⟩)
        have CD := Lib.hid (cloneDot (dotsC m'[k].2.2.past) m'[k].2.2.past.length m'[k].2.1 m'[k].1 wr (pk.ext hb).1 (dotsC_len _) (dotsC_one _) (by omega))
        have EP := Lib.hid fun (W : World) (x : Option Addr × Nat × Sp.Ver) (hx : x ∈ m') => hx
        have O0 := Lib.hid hO
        have P0 := Lib.hid hP
        have HB := Lib.hid hb
        have HMM := Lib.hid hmm
        have HGW := Lib.hid hgw
        have PL := Lib.hid pk.2
        have B1 : (k : Int) < (l.length : Int) := by omega
        obtain ⟨x, hx⟩ : ∃ x, x = m'[k] := ⟨_, rfl⟩
        rw [← hx] at c2 CD PL hpl
        have HX := Lib.hid hx
        clear hO hP hb hmm hgw pk EP hx
        go_wp2_with fail
        refine CD.out.mono ?_
        rintro e w2 ⟨v2, rfl, hO2, hb2⟩
        obtain ⟨A2, cp2, rfl, hC2⟩ := own_read hO2
        have off := own_off hO2
        have c2' := hb2.cell c2
        have f2' : w2.frozen? ⟨gv, k * 5 + 2, none⟩ = false := by
          have := hb2.block gv HGW.out
          rw [World.frozen?_of_block (a := ⟨gv, k * 5 + 2, none⟩) this]; exact f2
        have O2 := Lib.hid hO2
        have C2 := Lib.hid hC2
        have OFF := Lib.hid off
        have HB2 := Lib.hid hb2
        clear hO2 hC2 off hb2 c2 f2
        go_wp2_with fail
        have hj : k * 5 + 2 < (versC m').length := by rw [versC_len]; omega
        have O3 := own_set (owned_below O0.out HB2.out) (k * 5 + 2) hj (.slice A2 x.2.2.past.length cp2)
        have VS := versC_set m' k A2 cp2 hkm
        rw [← HX.out] at VS
        rw [VS] at O3
        have hlk : x.2.2 = l[k] := by
          have : l[k]? = some x.2.2 := by rw [← HMM.out, List.getElem?_map, List.getElem?_eq_getElem hkm, ← HX.out]; rfl
          rw [List.getElem?_eq_getElem hlt] at this
          exact (Option.some.inj this).symm
        have hmap : (m'.set k (A2, cp2, x.2.2)).map (·.2.2) = l := by
          rw [List.map_set, HMM.out]
          show l.set k x.2.2 = l
          rw [hlk, List.set_getElem_self]
        have on : Only gv w2 (w2.setCell ⟨gv, k * 5 + 2, none⟩ (.slice A2 x.2.2.past.length cp2)) := Only.set _ _ _ _
        refine ⟨⟨k + 1, m'.set k (A2, cp2, x.2.2), by omega, by go_num, hmap, O3, fun i hi => ?_, (HB.out.trans HB2.out).setCell hBg _, by have := HB2.out.size; have := HGW.out; simp; omega⟩, by simp [intOf]; omega⟩
        have hi' : i < m'.length := by simpa using hi
        rw [List.getElem_set]
        by_cases hik : k = i
        · rw [if_pos hik]
          refine ⟨fun _ => ⟨fun a ha => by have := OFF.out a ha; have := HGW.out; omega, own_apart (own_lowT O2.out (Nat.zero_le _)) on (fun e => ?_), PL.out⟩, fun h => by omega⟩
          cases hA2 : A2 with
          | none => rw [hA2] at e; cases e
          | some a =>
            rw [hA2] at e
            have e3 : a.block = gv := Option.some.inj e
            have := OFF.out a hA2
            have := HGW.out
            omega
        · rw [if_neg hik]
          obtain ⟨p1, p2⟩ := P0.out i hi'
          refine ⟨fun h => ?_, fun h => p2 (by omega)⟩
          obtain ⟨q1, q2⟩ := p1 (by omega)
          refine ⟨q1, own_apart (own_ext q2.1 HB2.out) on (fun e => ?_), q2.2⟩
          cases hA2 : m'[i].1 with
          | none => rw [hA2] at e; cases e
          | some a =>
            rw [hA2] at e
            have e3 : a.block = gv := Option.some.inj e
            have := q1 a hA2
            omega
      · obtain rfl : k = l.length := by omega
        go_wp2
        go_ret
        exact ⟨_, rfl, ⟨m', hmm, own_lowT hO (Nat.zero_le _), fun x hx => by
          obtain ⟨i, hi, rfl⟩ := List.getElem_of_mem hx
          exact ((hP i hi).1 (by omega)).2⟩, hb⟩
end Go.Proofs.YtmlfnidckfeebaaGreatDoor
namespace Go.Proofs.YtmlfnidckfeebaaGreatDoor
open Go.RowKit Go.Shelf
attribute [local go_sem] yUpon strOf_toList Oper.semAt_some
set_option maxRecDepth 100000 in
set_option maxHeartbeats 4000000 in
theorem root_some (t : Sp.T) (v : Value) (w : World) (h : TreeAt w v (some t)) : ∃ g, InnerAt w g t ∧ ∀ W, Ext w W → Calls Tryz.prog 79 #[v] W fun e W' => e = .returned (.pointer (some ⟨g, 0, none⟩)) ∧ W = W' := by
  rcases h with ⟨h, _⟩ | ⟨g, p, rfl, hx, ⟨h, _⟩ | ⟨g1, t1, ht, rfl, hi⟩⟩
  · cases h
  · cases h
  · cases ht
    refine ⟨g1, hi, fun W e => ?_⟩
    have f0 := ((hx.below e).cell 0).trans rfl
    go_enter Tryz.func79, Tryz.ntmps79
    go_wp2
    go_ret
    exact ⟨rfl, rfl⟩
theorem each_calls (a : Option Addr) (w : World) : Calls Tryz.prog 83 #[.pointer a] w fun e w' => e = .returned (.func (.func 151) #[] #[.pointer (some ⟨w.heap.size, 0, none⟩)]) ∧ w' = w.alloc (.cells #[.pointer a] 25) := by
  go_enter Tryz.func83, Tryz.ntmps83
  go_wp2_with fail
  go_ret
  exact ⟨rfl, rfl⟩
/-- What a tree's range tells, of any rounds that keep rows of text. -/
def Lists (w0 : World) (v : Value) (T : TypeId → Prop) (m : List LE) : Prop :=
  ∀ (n l : Nat) (J : Nat → World → Prop) (gb : Nat) (W : World), (∀ i W W', J i W → Ext W W' → J i W') → (∀ i W, J i W → Ext w0 W) → Tells T w0.heap.size l m J → isBlk W gb 25 #[v] → J 0 W →
    CallsIn Fence.wide n Tryz.prog 151 #[.func (.yield l) #[] #[], .pointer (some ⟨gb, 0, none⟩)] W fun e W' => (∃ v, e = .returned v) ∧ J m.length W'
theorem each_in {w0 : World} {T : TypeId → Prop} (hT : ¬ T 9) (o : Option Sp.T) (v : Value) (h : TreeAt w0 v o) (hg : Sp.GoodO o) (hd : ∀ x ∈ Sp.entriesO o, x.1.length ≤ 60) (K : KeysAt w0 2) :
    ∃ m : List LE, m.map (·.2.2) = Sp.entriesO o ∧ (∀ x ∈ m, Vers w0 x.1 x.2.2.2) ∧ Lists w0 v T m := by
  have tokZ : True := trivial
  cases o with
  | none =>
    refine ⟨[], rfl, (fun x h => by cases h), fun n l J gb W hJx hJ0 hY hb hJ => ?_⟩
    have RC := Lib.hid (root_calls none v W (h.ext (hJ0 _ _ hJ)) (K.ext (hJ0 _ _ hJ)))
    have JX := Lib.hid hJx
    have J0 := Lib.hid hJ
    have f0 := (hb.cell 0).trans rfl
    clear hJx hJ0 hY hb hJ h K hd hg
    refine callsIn_of_wp Tryz.func151 rfl trivial ?_ rfl
    simp only [Tryz.ntmps151, List.size_toArray, List.length_cons, List.length_nil, Nat.reduceAdd, Nat.reduceSub, Array.replicate_succ, Array.replicate_zero, List.push_toArray, List.append_toArray, List.nil_append, List.cons_append]
    gi_wp2_with fail
    refine ⟨trivial, (fun h => by cases h), callsIn_of (RC.out.mono ?_)⟩
    rintro e w1 ⟨g1, rfl, hi, hb1⟩
    obtain ⟨m1, hm1⟩ := list_of hi
    have h0 : m1 = [] := by
      have := list_entries hm1
      exact List.map_eq_nil_iff.1 this
    subst h0
    have JJ := Lib.hid (JX.out _ _ _ J0.out hb1)
    have AI := Lib.hid (all_in (w0 := w1) (T := T) hT hm1 (n - 1) [] (.slice none 0 0) l [] (fun i W => J i W ∧ Ext w1 W) 0 w1 ⟨fun h => absurd rfl h, List.Pairwise.nil, trivial⟩ (by decide) (fun i W W' h e => ⟨JX.out _ _ _ h.1 e, h.2.trans e⟩) (fun i W h => h.2) (fun i hi => absurd hi (Nat.not_lt_zero i)) (fun j h => absurd h (Nat.not_lt_zero j)) (fun x h => by cases h) (by decide) (fun s h => by cases h) (DirAt.nil _) ⟨JJ.out, Ext.refl _⟩)
    clear hi hb1 hm1 RC f0
    gi_wp2_with fail
    refine ⟨trivial, (fun h => by cases h), AI.out.mono ?_⟩
    rintro e w2 ⟨rfl, ⟨hj, _⟩, _⟩
    have J2 := Lib.hid hj
    clear hj
    gi_wp2_with fail
    go_end0
    exact ⟨⟨_, rfl⟩, J2.out⟩
  | some t =>
    obtain ⟨g, hi, hr⟩ := root_some t v w0 h
    obtain ⟨m, hm⟩ := list_of hi
    have hme := list_entries hm
    refine ⟨m, hme, list_vers hm, fun n l J gb W hJx hJ0 hY hb hJ => ?_⟩
    have RC := Lib.hid (hr W (hJ0 _ _ hJ))
    have f0 := (hb.cell 0).trans rfl
    have AI := Lib.hid fun W2 (e : Ext W W2) => all_in (T := T) hT hm (n - 1) [] (.slice none 0 0) l m J 0 W2 (hg.1 t rfl) (by
        have h1 : (Sp.entriesO (some t)).length ≤ 128 := hg.2
        rw [Sp.sizeT_len]
        exact Nat.le_trans h1 (by decide)) hJx hJ0 hY (fun j h => by rw [Nat.zero_add, List.getElem?_eq_getElem h]; rfl) (fun x hx => by
        have := hd x.2.2 (by rw [show Sp.entriesO (some t) = Sp.entries t from rfl, ← hme]; exact List.mem_map_of_mem hx)
        simpa using this) (by decide) (fun s h => by cases h) (DirAt.nil _) (hJx _ _ _ hJ e)
    clear hJx hJ0 hY hb hJ h K hd hg hm hme hi hr
    refine callsIn_of_wp Tryz.func151 rfl trivial ?_ rfl
    simp only [Tryz.ntmps151, List.size_toArray, List.length_cons, List.length_nil, Nat.reduceAdd, Nat.reduceSub, Array.replicate_succ, Array.replicate_zero, List.push_toArray, List.append_toArray, List.nil_append, List.cons_append]
    gi_wp2_with fail
    refine ⟨trivial, (fun h => by cases h), callsIn_of (RC.out.mono ?_)⟩
    rintro e w1 ⟨rfl, rfl⟩
    gi_wp2_with fail
    refine ⟨trivial, (fun h => by cases h), (AI.out _ (Ext.refl _)).mono ?_⟩
    rintro e w2 ⟨rfl, hj, _⟩
    rw [Nat.zero_add] at hj
    have J2 := Lib.hid hj
    clear hj
    gi_wp2_with fail
    go_end0
    exact ⟨⟨_, rfl⟩, J2.out⟩
end Go.Proofs.YtmlfnidckfeebaaGreatDoor
namespace Go.Proofs.YtmlfnidckfeebaaGreatDoor
open Go.RowKit Go.Shelf
attribute [local go_sem] yUpon strOf_toList Oper.semAt_some encL
namespace Sp
end Sp
theorem EntsOwn.read {w : World} {B : Nat} {v : Value} {l : List Sp.DE} (h : EntsOwn w B v l) : ∃ A cap, v = .slice A l.length cap ∧ EntsAt w A l := by
  obtain ⟨mo, h3, h2, h4⟩ := h
  obtain ⟨A, cap, rfl, hc⟩ := own_read h2
  refine ⟨A, cap, rfl, mo, h3, hc, fun x hx => ?_⟩
  obtain ⟨A2, c2, e2, hv⟩ := (h4 x hx).read
  cases e2
  exact hv
theorem KB.putO {T : TypeId → Prop} {B l : Nat} {W : World} {ob : Obj} (hB : B ≤ l) (h : W.heap[l]? = some ob) (ho : ob.isCells = false) (o : Obj) : KB T B W (W.putObj l o) :=
  ⟨⟨rfl, rfl, rfl, by simp, fun k hk => World.putObj_heap_other (by omega)⟩, fun i cs t f hi _ => (World.putObj_heap_other (fun e => by rw [e, h] at hi; cases hi; cases ho)).trans hi⟩
theorem others_ext {w w' : World} (h : Ext w w') : KeepsOthers w w' := ⟨h.size, fun k _ hk _ => (h.block k (Array.getElem?_eq_some_iff.1 hk).1).trans hk⟩
theorem others_grown {w w' : World} {b n size : Nat} {e : TypeId} {v : Value} {xs : List Value} (h : w.ownsRow b e size v n xs) (hg : w.grownBy w' v.ownBlock) : KeepsOthers w w' :=
  KeepsOthers.of_grownBy hg (fun j o e2 hj => by
    rcases h.2 with ⟨hv, _⟩ | ⟨g, cap, cur, hv, _, hh, _⟩
    · rw [hv] at e2; cases e2
    · rw [hv] at e2
      have e3 : g = j := Option.some.inj e2
      rw [← e3, hh] at hj
      cases hj
      rfl)
/-- The types of the rows that are written. -/
abbrev entT : TypeId → Prop := fun t => t = 22 ∨ t = 43
set_option maxRecDepth 100000 in
set_option maxHeartbeats 4000000 in
theorem entries_in (o : Option Sp.T) (v : Value) (w : World) (h : TreeAt w v o) (hg : Sp.GoodO o) (hd : ∀ x ∈ Sp.entriesO o, x.1.length ≤ 60) (K : KeysAt w 2) :
    CallsIn Fence.wide 3 Tryz.prog 27 #[v] w fun e w' => ∃ v', e = .returned v' ∧ EntsOwn w' w.heap.size v' (Sp.told o) ∧ Ext w w' := by
  obtain ⟨m, hm, hv, hL⟩ := each_in (T := entT) (by intro h; rcases h with h | h <;> cases h) o v h hg hd K
  have hlen : m.length ≤ 128 := by
    have := congrArg List.length hm
    rw [List.length_map] at this
    have h2 := hg.2
    omega
  have hfit : ∀ x ∈ m, x.2.2.2.length ≤ 1000000 ∧ ∀ u ∈ x.2.2.2, u.past.length ≤ 1000000 := fun x hx => by
    have hx2 : x.2.2 ∈ Sp.entriesO o := by rw [← hm]; exact List.mem_map_of_mem hx
    exact Sp.told_fit hg _ hx2
  have HM := Lib.hid hm
  have HV := Lib.hid hv
  have HL := Lib.hid hL
  have HF := Lib.hid hfit
  obtain ⟨a, rfl⟩ := tree_ptr h
  have EC := Lib.hid fun W => each_calls a W
  clear hm hv hL h hg hd K hfit
  refine callsIn_of_wp_marks Tryz.func27 rfl trivial ?_ rfl
  simp only [Tryz.ntmps27, List.size_toArray, List.length_cons, List.length_nil, Nat.reduceAdd, Nat.reduceSub, Array.replicate_succ, Array.replicate_zero, List.push_toArray, List.append_toArray, List.nil_append, List.cons_append]
  gi_wp2_with fail
  refine ⟨trivial, ?_⟩
  refine callsIn_of ((EC.out _).mono ?_)
  rintro e w1 ⟨rfl, hw1⟩
  obtain ⟨w2, hw2⟩ : ∃ w2, w2 = w1 := ⟨_, rfl⟩
  have X0 := Lib.hid (show isBlk w2 w.heap.size 22 #[.slice none 0 0] by rw [hw2, hw1]; exact (box_at w _ _).alloc _)
  have X1 := Lib.hid (show isBlk w2 (w.heap.size + 1) 25 #[.pointer a] by rw [hw2, hw1]; have := box_at (w.alloc (.cells #[.slice none 0 0] 22)) #[.pointer a] 25; rwa [World.size_alloc] at this)
  have E2 := Lib.hid (show Ext w w2 by rw [hw2, hw1]; exact (Ext.alloc w _).trans (Ext.alloc _ _))
  rw [← hw2]
  clear hw1 hw2
  gi_wp2_with fail
  refine range_keep (n := 3) entT (fun W => Ext w W) (B := w.heap.size) (by omega) E2.out.size (gf := 151) (lb := #[.pointer (some ⟨w.heap.size + 1, 0, none⟩)]) rfl (enters_of Tryz.func151 (by kernel_rfl) rfl)
    encL m (fun _ => rfl) ?hit (fun i W => Put w w.heap.size m i W) (fun i W W' h k => h.keep k) (fun i W h => by obtain ⟨_, _, _, _, _, _, h⟩ := h; exact h) ?h0 ?a1 ?assign ?body ?done
  case hit =>
    intro l J W hW hJx hJe hY h0
    exact HL.out 2 l J (w.heap.size + 1) W hJx hJe hY (X1.out.below hW) h0
  case h0 => exact ⟨_, [], X0.out, World.ownsRow_nil _ _ _ _, rfl, (fun x h => by cases h), E2.out⟩
  case assign =>
    intro l q x W K hK
    gi_wp2
    exact hK
  case body =>
    rintro l q i hi wr ⟨v, mo, h1, h2, h3, h4, h5⟩
    obtain ⟨x, hx⟩ : ∃ x, x = m[i] := ⟨_, rfl⟩
    have hxm : x ∈ m := by rw [hx]; exact List.getElem_mem hi
    have CP := Lib.hid (copiedT_calls x.2.2.2 x.1 x.2.1 wr.drew ((HV.out x hxm).ext h5.drew) (HF.out x hxm).1 (HF.out x hxm).2)
    have P1 := Lib.hid h1
    have O2 := Lib.hid h2
    have M3 := Lib.hid h3
    have V4 := Lib.hid h4
    have E5 := Lib.hid h5
    have XX := Lib.hid hx
    have i128 : i < 128 := by omega
    have tokA : True := trivial
    rw [← hx]
    clear h1 h2 h3 h4 h5 hx hxm
    gi_wp2_with fail
    refine wpIn_region_seqT (r := some l) (fun W' => Ext wr W') 3 6 (by kernel_rfl) (by kernel_rfl) (by kernel_rfl) (Ext.refl wr).drew ?_
    simp only [List.take_succ_cons, List.take_zero, List.drop_succ_cons, List.drop_zero]
    repeat (first
      | (refine floatT_step (fun K hK => ?_)
         apply Exists.intro
         refine ⟨Or.inl ⟨rfl, fun W hS => ?_⟩, ?_⟩
         · have hz : Ext wr W := hS; have f0 := ((P1.out.below hz).cell 0).trans rfl
           go_simp
           first | done | exact rfl
         go_simp
         refine hK _ ?_
         clear hK K))
    refine floatT_nil ?_
    refine seqT_succ (n := 2) (fun Q' hQ' => ?_)
    go_wp2_with fail
    refine CP.out.mono ?_
    rintro e w8 ⟨v8, rfl, hO8, hb8⟩
    obtain ⟨A8, c8, rfl, hV8⟩ := hO8.read
    have O8 := Lib.hid hO8
    have B8 := Lib.hid (show Ext wr w8 from Below.trans (Below.refl _ _).drew hb8)
    clear hO8 hV8 hb8
    go_wp2
    refine hQ' _ _ B8.out ?_
    clear hQ'
    refine seqT_succ (n := 1) (fun Q' hQ' => ?_)
    go_wp2_with fail
    refine hQ' _ _ B8.out ?_
    clear hQ'
    refine seqT_succ (n := 0) (fun Q' hQ' => ?_)
    go_wp2_with fail
    refine hQ' _ _ (Below.alloc B8.out B8.out.size _) ?_
    clear hQ'
    refine seqT_zero ?_
    go_wp2_with (have _t := tokA; at_builtin; refine app_new appEnt rfl _ _ rfl (w.heap.size + 1) v i _ rfl (own_ext O2.out B8.out) #[.string (strOf (Sp.joinP x.2.2.1)), .slice A8 x.2.2.2.length c8] 43 1 rfl rfl (by intro u hu; simp at hu; rcases hu with rfl | rfl <;> rfl) (by decide) (by omega) (by have := P1.out.lt; have := B8.out.size; omega) ?_; intro g6 cap6 w10 hown10 hgr10 hb10 hbg10; have O10 := Lib.hid hown10; have G10 := Lib.hid hgr10; have B10 := Lib.hid hb10; have Z10 := Lib.hid (show isBlk w10 w.heap.size 22 #[v] from (hb10.block _ (Nat.lt_succ_self _)).trans (P1.out.below B8.out)); have k0 := (Z10.out.cell 0).trans rfl; have k1 := Z10.out.frozen 0; clear tokA _t hown10 hgr10 hb10 hbg10)
    refine ⟨rfl, ?_⟩
    have KA := Lib.hid (show KB entT w.heap.size wr w10 from (KB.ext E5.out.size B8.out).trans (KB.grown (own_ext O2.out B8.out) (.inr rfl) G10.out (B10.out.mono (Nat.le_succ _))))
    have KO := Lib.hid (show KeepsOthers wr w10 from (others_ext B8.out).trans (others_grown (own_ext O2.out B8.out) G10.out))
    have hv' : ∀ y ∈ mo ++ [(A8, c8, tellL x)], OwnVersT w10 (.slice y.1 y.2.2.2.length y.2.1) y.2.2.2 := fun y hy => by
      rcases List.mem_append.1 hy with h | h
      · exact (V4.out y h).keep (by intro h; rcases h with h | h <;> cases h) (by intro h; rcases h with h | h <;> cases h) KA.out
      · obtain rfl := List.mem_singleton.1 h
        exact O8.out.keep (by intro h; rcases h with h | h <;> cases h) (by intro h; rcases h with h | h <;> cases h) (KB.grown (T := entT) (B := w.heap.size) (own_ext O2.out B8.out) (.inr rfl) G10.out (B10.out.mono (Nat.le_succ _)))
    have HV' := Lib.hid hv'
    clear hv'
    gi_wp2_with fail
    have ks : KB entT w.heap.size w10 (w10.setCell ⟨w.heap.size, 0, none⟩ (.slice (some ⟨g6, 0, none⟩) (i + 1) cap6)) := KB.set Z10.out (.inl rfl) (Nat.le_refl _) _
    refine ⟨KO.out.trans (KeepsOthers.setCell _ _ _), KA.out.trans ks, _, mo ++ [(A8, c8, tellL x)], Z10.out.put 0 _ rfl, ?_, ?_, fun y hy => ?_, ?_⟩
    · rw [entsC_snoc]
      exact own_far O10.out (fun e => by
        have e2 : g6 = w.heap.size := Option.some.inj e
        have := (own_off O10.out) _ rfl
        simp only at this
        omega) _
    · rw [List.map_append, M3.out, List.take_succ_eq_append_getElem hi, List.map_append, XX.out]
      rfl
    · exact (HV'.out y hy).keep (by intro h; rcases h with h | h <;> cases h) (by intro h; rcases h with h | h <;> cases h) ks
    · exact Below.trans (Below.trans E5.out KA.out.below) ks.below
  case done =>
    rintro D W hD hP hK
    have TM := Lib.hid (show m.map tellL = Sp.told o by
      unfold Sp.told
      rw [← HM.out, List.map_map]
      rfl)
    have LM := Lib.hid (show m.length = (Sp.told o).length by rw [← TM.out, List.length_map])
    have EW := Lib.hid (show Ext w W by obtain ⟨_, _, _, _, _, _, h⟩ := hP; exact h)
    obtain ⟨v, h1, hE⟩ := hP.own
    rw [TM.out] at hE
    have k0 := (h1.cell 0).trans rfl
    have KD := Lib.hid (show KB noT w.heap.size W (W.putObj D (.deferred none)) from KB.putO (by have := E2.out.size; omega) hK rfl _)
    have HE := Lib.hid hE
    clear h1 hE
    gi_wp2_with fail
    refine ⟨by simp, .inl ⟨_, _, rfl, run_takeDeferred hK, ?_⟩⟩
    refine ⟨_, results_tmp rfl _ _ _, ?_⟩
    first
      | exact ⟨v, rfl, HE.out.keep (fun h => h) (fun h => h) (fun h => h) KD.out, Below.trans EW.out KD.out.below⟩
      | exact ⟨⟨v, rfl⟩, HE.out.keep (fun h => h) (fun h => h) (fun h => h) KD.out, Below.trans EW.out KD.out.below⟩
/-- Entries: the row is the call's own. -/
theorem entown_calls (o : Option Sp.T) (v : Value) (w : World) (h : TreeAt w v o) (hg : Sp.GoodO o) (hd : ∀ x ∈ Sp.entriesO o, x.1.length ≤ 60) (K : KeysAt w 2) :
    Calls Tryz.prog 27 #[v] w fun e w' => ∃ v', e = .returned v' ∧ EntsOwn w' w.heap.size v' (Sp.told o) ∧ Ext w w' :=
  callsIn_wide.1 (entries_in o v w h hg hd K)
theorem entries_calls (o : Option Sp.T) (v : Value) (w : World) (h : TreeAt w v o) (hg : Sp.GoodO o) (hd : ∀ x ∈ Sp.entriesO o, x.1.length ≤ 60) (K : KeysAt w 2) :
    Calls Tryz.prog 27 #[v] w fun e w' => ∃ A cap, e = .returned (.slice A (Sp.told o).length cap) ∧ EntsAt w' A (Sp.told o) ∧ Ext w w' :=
  (entown_calls o v w h hg hd K).mono (by
    rintro e w' ⟨v', rfl, hO, hb⟩
    obtain ⟨A, cap, rfl, hE⟩ := hO.read
    exact ⟨A, cap, rfl, hE, hb⟩)
end Go.Proofs.YtmlfnidckfeebaaGreatDoor
namespace Go.Proofs.YtmlfnidckfeebaaGreatDoor
open Go.RowKit Go.Shelf
attribute [local go_sem] yUpon strOf_toList
namespace Sp
theorem under_root {p : Bs} (h : check p = 0) : under p [] = true := by
  have h1 := (check_parts h).1
  have h2 := split_ne p
  unfold under
  rw [parts_empty, h1]
  simp [h2, List.length_pos_iff]
end Sp
end Go.Proofs.YtmlfnidckfeebaaGreatDoor
namespace Go.Proofs.YtmlfnidckfeebaaGreatDoor
open Go.RowKit
namespace Sp
theorem told_short {o : Option T} {m : List DE} (he : toP m = entriesO o) (hm : GoodM m) : ∀ x ∈ entriesO o, x.1.length ≤ 60 := fun x hx => by
  rw [← he] at hx
  obtain ⟨e, h1, rfl⟩ := List.mem_map.1 hx
  exact Nat.le_trans (check_parts (hm.1 e h1)).2.2.1 (by decide)
end Sp
end Go.Proofs.YtmlfnidckfeebaaGreatDoor
namespace Go.Proofs.YtmlfnidckfeebaaGreatDoor
open Go.RowKit Go.Shelf
attribute [local go_sem] yUpon strOf_toList
namespace Sp
theorem Both.short {o : Option T} {m : List DE} (h : Both o m) : ∀ x ∈ entriesO o, x.1.length ≤ 60 := told_short h.eq h.gm
end Sp
end Go.Proofs.YtmlfnidckfeebaaGreatDoor
namespace Go.Proofs.YtmlfnidckfeebaaGreatDoor
open Go.RowKit Go.Shelf
namespace Sp
mutual
theorem entries_leaf : ∀ (t : T), ∀ e ∈ entries t, e.2 ≠ []
  | .mk leaf k, e, h => by
    rw [entries] at h
    rcases List.mem_append.1 h with h | h
    · by_cases hl : leaf = []
      · rw [if_pos hl] at h; cases h
      · rw [if_neg hl] at h
        obtain rfl := List.mem_singleton.1 h
        exact hl
    · exact entriesL_leaf k e h
theorem entriesL_leaf : ∀ (k : List (Bs × T)), ∀ e ∈ entriesL k, e.2 ≠ []
  | [], e, h => by rw [entriesL] at h; cases h
  | (n, t) :: r, e, h => by
    rw [entriesL] at h
    rcases List.mem_append.1 h with h | h
    · obtain ⟨x, hx, rfl⟩ := List.mem_map.1 h
      exact entries_leaf t x hx
    · exact entriesL_leaf r e h
end
theorem Both.rise {o : Option T} {m : List DE} (h : Both o m) : RiseE (toP m) := by rw [h.eq]; exact riseO h.go.1
theorem Both.full {o : Option T} {m : List DE} (h : Both o m) : ∀ e ∈ m, e.2 ≠ [] := fun e he => by
  have h1 : (split e.1, e.2) ∈ entriesO o := by rw [← h.eq]; exact List.mem_map.2 ⟨e, he, rfl⟩
  cases o with
  | none => cases h1
  | some t => exact entries_leaf t _ h1
theorem cmpP_app : ∀ (D a b : List Bs), cmpP (D ++ a) (D ++ b) = cmpP a b
  | [], _, _ => rfl
  | x :: D, a, b => by
    rw [List.cons_append, List.cons_append, cmpP, if_pos rfl]
    exact cmpP_app D a b
end Sp
end Go.Proofs.YtmlfnidckfeebaaGreatDoor
namespace Go.Proofs.YtmlfnidckfeebaaGreatDoor
namespace Sp
theorem cput_form (n : Nat) : ∃ p b, cput n = p ++ [b] ∧ (∀ x ∈ p, 128 ≤ x.toNat) ∧ b.toNat < 128 ∧ num (cput n) = n ∧ (p ≠ [] → b ≠ 0) ∧ (b = 0 → n = 0 ∨ p ≠ []) := by
  induction n using Nat.strongRecOn with
  | _ n ih =>
    by_cases h : n < 128
    · refine ⟨[], UInt8.ofNat n, ?_, by simp, ?_, ?_, by simp, ?_⟩
      · rw [cput, if_pos h]; rfl
      · simp; omega
      · rw [cput, if_pos h]; simp [num]; omega
      · intro e
        have := congrArg UInt8.toNat e
        simp at this
        left; omega
    · obtain ⟨p, b, h1, h2, h3, h4, h5, h6⟩ := ih (n / 128) (by omega)
      have hc : cput n = UInt8.ofNat (n % 128 + 128) :: cput (n / 128) := by rw [cput, if_neg h]
      refine ⟨UInt8.ofNat (n % 128 + 128) :: p, b, by rw [hc, h1]; rfl, ?_, h3, ?_, ?_, fun _ => .inr (by simp)⟩
      · intro x hx
        rcases List.mem_cons.1 hx with rfl | hx
        · simp; omega
        · exact h2 x hx
      · rw [hc, num, h4]; simp; omega
      · intro _ e
        rcases h6 e with h0 | h0
        · omega
        · exact h5 h0 e
theorem cend_app : ∀ (p : List UInt8) (pre : List UInt8) (b : UInt8) (r : List UInt8) (f : Nat), (∀ x ∈ p, 128 ≤ x.toNat) → b.toNat < 128 → p.length < f → cend (pre ++ (p ++ b :: r)) f pre.length = some (pre.length + p.length)
  | [], pre, b, r, f, _, hb, hf => by
    obtain ⟨f, rfl⟩ : ∃ g, f = g + 1 := ⟨f - 1, by simp at hf; omega⟩
    rw [cend, List.getElem?_append_right (Nat.le_refl _), Nat.sub_self]
    simp [hb]
  | c :: p, pre, b, r, f, hp, hb, hf => by
    obtain ⟨f, rfl⟩ : ∃ g, f = g + 1 := ⟨f - 1, by simp at hf; omega⟩
    have hc : ¬ c.toNat < 128 := by have := hp c (by simp); omega
    have ih := cend_app p (pre ++ [c]) b r f (fun x hx => hp x (by simp [hx])) hb (by simp at hf; omega)
    rw [cend, List.getElem?_append_right (Nat.le_refl _), Nat.sub_self]
    simp only [List.cons_append, List.getElem?_cons_zero, hc, if_false]
    simp only [List.length_append, List.length_cons, List.length_nil, List.append_assoc, List.singleton_append] at ih
    simp only [List.length_cons]
    rw [Nat.zero_add] at ih
    rw [ih]
    congr 1
    omega
theorem take_cput (n : Nat) (r : List UInt8) (h : n ≤ 1073741824) : take (cput n ++ r) = (n, (cput n).length, 0) := by
  obtain ⟨p, b, h1, h2, h3, h4, h5, _⟩ := cput_form n
  have hlen := cput_len n h
  rw [h1, List.length_append] at hlen
  have hpl : p.length < 5 := by simp at hlen; omega
  have he := cend_app p [] b r 5 h2 h3 hpl
  simp only [List.nil_append, List.length_nil, Nat.zero_add] at he
  have hl : cput n ++ r = p ++ b :: r := by rw [h1]; simp
  have htk : (p ++ b :: r).take (p.length + 1) = cput n := by
    rw [h1, List.take_append, List.take_of_length_le (by omega)]; simp
  unfold take
  rw [hl, he]
  simp only []
  rw [if_neg, htk, h4, if_neg (by omega), h1]
  · simp
  · rintro ⟨e, h0⟩
    rw [List.getElem?_append_right (Nat.le_refl _), Nat.sub_self] at e
    simp at e
    exact h5 (by intro h; rw [h] at h0; simp at h0) e
theorem put_nat (n : Nat) (h : n ≤ 1073741824) : put (n : Int) = cput n := by unfold put; rw [if_pos (by omega)]; simp
end Sp
end Go.Proofs.YtmlfnidckfeebaaGreatDoor
namespace Go.Proofs.YtmlfnidckfeebaaGreatDoor
namespace Sp
theorem wput_out {b : Bool} {s : Bs} {x : W} (h : (wput b s x).2 = 0) : x.2 = 0 ∧ b = true ∧ (wput b s x).1 = x.1 ++ s := by
  unfold wput at h ⊢
  by_cases hx : x.2 = 0
  · rw [if_neg (by simpa using hx)] at h ⊢
    cases b with
    | true => exact ⟨hx, rfl, rfl⟩
    | false => exact absurd (show (2 : Int) = 0 from h) (by decide)
  · rw [if_pos hx] at h; exact absurd h hx
theorem tells_num : Tells wnum put (fun _ => True) (fun n => 0 ≤ n ∧ n ≤ 1073741824) where
  out n x _ h := by
    obtain ⟨h1, h2, h3⟩ := wput_out h
    exact ⟨h1, h3, by simpa using h2⟩
  inj a b r s ha hb h := by
    obtain ⟨n, rfl⟩ := Int.eq_ofNat_of_zero_le ha.1
    obtain ⟨m, rfl⟩ := Int.eq_ofNat_of_zero_le hb.1
    rw [put_nat n (by omega), put_nat m (by omega)] at h
    have h1 := take_cput n r (by omega)
    have h2 := take_cput m s (by omega)
    rw [h] at h1
    have h4 : n = m := congrArg Prod.fst (h1.symm.trans h2)
    subst h4
    exact ⟨rfl, List.append_cancel_left h⟩
theorem tells_text : Tells wtext (fun s => put s.length ++ s) (fun _ => True) (fun s => s.length ≤ 65536) where
  out s x _ h := by
    obtain ⟨h1, h2, h3⟩ := wput_out h
    exact ⟨h1, h3, by simpa using h2⟩
  inj a b r s ha hb h := by
    rw [List.append_assoc, List.append_assoc] at h
    obtain ⟨h1, h2⟩ := tells_num.inj _ _ _ _ ⟨by omega, by omega⟩ ⟨by omega, by omega⟩ h
    exact List.append_inj h2 (by omega)
theorem tells_flag : Tells wflag (fun b => [if b then 1 else 0]) (fun _ => True) (fun _ => True) where
  out s x _ h := by
    obtain ⟨h1, h2, h3⟩ := wput_out h
    exact ⟨h1, h3, trivial⟩
  inj a b r s ha hb h := by
    rw [List.singleton_append, List.singleton_append, List.cons.injEq] at h
    refine ⟨?_, h.2⟩
    have h1 := h.1
    cases a <;> cases b <;> first | rfl | exact absurd h1 (by decide)
theorem tells_digest : Tells wdigest (fun d => d) (fun d => d.length = 32) (fun d => d.length = 32) where
  out s x p h := by
    obtain ⟨h1, h2, h3⟩ := wput_out h
    exact ⟨h1, h3, p⟩
  inj a b r s ha hb h := List.append_inj h (by rw [ha, hb])
theorem Tells.seq {α β : Type} {f : α → W → W} {f' : β → W → W} {enc : α → Bs} {enc' : β → Bs} {pre ok : α → Prop} {pre' ok' : β → Prop} (h : Tells f enc pre ok) (h' : Tells f' enc' pre' ok') :
    Tells (fun (a : α × β) x => f' a.2 (f a.1 x)) (fun a => enc a.1 ++ enc' a.2) (fun a => pre a.1 ∧ pre' a.2) (fun a => ok a.1 ∧ ok' a.2) where
  out a x p e := by
    obtain ⟨h1, h2, h3⟩ := h'.out _ _ p.2 e
    obtain ⟨g1, g2, g3⟩ := h.out _ _ p.1 h1
    exact ⟨g1, by rw [h2, g2, List.append_assoc], g3, h3⟩
  inj a b r s ha hb e := by
    rw [List.append_assoc, List.append_assoc] at e
    obtain ⟨h1, h2⟩ := h.inj _ _ _ _ ha.1 hb.1 e
    obtain ⟨h3, h4⟩ := h'.inj _ _ _ _ ha.2 hb.2 h2
    exact ⟨Prod.ext h1 h3, h4⟩
theorem wfail_no {e : Int} (he : e ≠ 0) (x : W) : (wfail e x).2 ≠ 0 := by
  unfold wfail
  by_cases h : x.2 = 0
  · rw [if_pos h]; exact he
  · rw [if_neg h]; exact h
theorem Tells.ifs {α : Type} {f : α → W → W} {enc : α → Bs} {pre ok : α → Prop} (h : Tells f enc pre ok) (c : α → Int) : Tells (fun a x => if c a ≠ 0 then wfail (c a) x else f a x) enc pre ok where
  out a x p e := by
    by_cases hc : c a = 0
    · have : ¬ c a ≠ 0 := fun h => h hc
      simp only [if_neg this] at e ⊢
      exact h.out _ _ p e
    · simp only [if_pos hc] at e
      exact absurd e (wfail_no hc x)
  inj := h.inj
theorem Tells.fold {α : Type} {f : α → W → W} {enc : α → Bs} {pre ok : α → Prop} (h : Tells f enc pre ok) : ∀ (l : List α) (x : W), (∀ a ∈ l, pre a) → (l.foldl (fun x a => f a x) x).2 = 0 → x.2 = 0 ∧ (l.foldl (fun x a => f a x) x).1 = x.1 ++ l.flatMap enc ∧ ∀ a ∈ l, ok a
  | [], x, _, e => ⟨e, by simp, fun _ h => by cases h⟩
  | a :: r, x, p, e => by
    rw [List.foldl_cons] at e ⊢
    obtain ⟨h1, h2, h3⟩ := Tells.fold h r (f a x) (fun b hb => p b (List.mem_cons_of_mem _ hb)) e
    obtain ⟨g1, g2, g3⟩ := h.out a x (p a (List.mem_cons_self ..)) h1
    refine ⟨g1, by rw [h2, g2, List.flatMap_cons, List.append_assoc], fun b hb => ?_⟩
    rcases List.mem_cons.1 hb with rfl | hb
    · exact g3
    · exact h3 b hb
theorem Tells.folds {α : Type} {f : α → W → W} {enc : α → Bs} {pre ok : α → Prop} (h : Tells f enc pre ok) : ∀ (l m : List α) (r s : Bs), l.length = m.length → (∀ a ∈ l, ok a) → (∀ a ∈ m, ok a) → l.flatMap enc ++ r = m.flatMap enc ++ s → l = m ∧ r = s
  | [], [], r, s, _, _, _, e => ⟨rfl, by simpa using e⟩
  | [], _ :: _, _, _, hl, _, _, _ => by cases hl
  | _ :: _, [], _, _, hl, _, _, _ => by cases hl
  | a :: l, b :: m, r, s, hl, ha, hb, e => by
    rw [List.flatMap_cons, List.flatMap_cons, List.append_assoc, List.append_assoc] at e
    obtain ⟨h1, h2⟩ := h.inj _ _ _ _ (ha a (List.mem_cons_self ..)) (hb b (List.mem_cons_self ..)) e
    obtain ⟨h3, h4⟩ := Tells.folds h l m r s (by simpa using hl) (fun x hx => ha x (List.mem_cons_of_mem _ hx)) (fun x hx => hb x (List.mem_cons_of_mem _ hx)) h2
    exact ⟨by rw [h1, h3], h4⟩
theorem Tells.list {α : Type} {f : α → W → W} {enc : α → Bs} {pre ok : α → Prop} (h : Tells f enc pre ok) :
    Tells (fun (l : List α) x => l.foldl (fun x a => f a x) (wnum l.length x)) (fun l => put l.length ++ l.flatMap enc) (fun l => ∀ a ∈ l, pre a) (fun l => (0 ≤ (l.length : Int) ∧ (l.length : Int) ≤ 1073741824) ∧ ∀ a ∈ l, ok a) where
  out l x p e := by
    obtain ⟨h1, h2, h3⟩ := h.fold l _ p e
    obtain ⟨g1, g2, g3⟩ := tells_num.out _ _ trivial h1
    exact ⟨g1, by rw [h2, g2, List.append_assoc], g3, h3⟩
  inj a b r s ha hb e := by
    rw [List.append_assoc, List.append_assoc] at e
    obtain ⟨h1, h2⟩ := tells_num.inj _ _ _ _ ha.1 hb.1 e
    exact h.folds _ _ _ _ (by omega) ha.2 hb.2 h2
def verPair (v : Ver) : ((Dot × List Dot) × Bool) × Bs := (((v.dot, v.past), v.dead), v.data)
theorem verPair_inj (v u : Ver) (h : verPair v = verPair u) : v = u := by
  cases v; cases u
  simp only [verPair, Prod.mk.injEq] at h
  obtain ⟨⟨⟨rfl, rfl⟩, rfl⟩, rfl⟩ := h
  rfl
theorem Tells.less {α : Type} {f : α → W → W} {enc : α → Bs} {pre ok : α → Prop} (h : Tells f enc pre ok) (pre' : α → Prop) (hp : ∀ a, pre' a → pre a) : ∃ enc ok, Tells f enc pre' ok :=
  ⟨enc, ok, ⟨fun a x p e => h.out a x (hp a p) e, h.inj⟩⟩
theorem tells_dot : ∃ enc ok, Tells wdot enc (fun _ => True) ok := (tells_num.seq tells_num).less _ fun _ _ => ⟨trivial, trivial⟩
theorem tells_vec : ∃ enc ok, Tells wvec enc (fun _ => True) ok := by
  obtain ⟨enc, ok, h⟩ := tells_dot
  exact (h.list.ifs vcheck).less _ fun _ _ _ _ => trivial
theorem tells_ver : ∃ enc ok, Tells wver enc (fun _ => True) ok := by
  obtain ⟨enc, ok, h⟩ := tells_dot
  obtain ⟨enc', ok', h'⟩ := tells_vec
  exact ((((h.seq h').seq tells_flag).seq tells_text).map verPair verPair_inj).less _ fun _ _ => ⟨⟨⟨trivial, trivial⟩, trivial⟩, trivial⟩
theorem tells_leaf : ∃ enc ok, Tells wleaf enc (fun _ => True) ok := by
  obtain ⟨enc, ok, h⟩ := tells_ver
  exact (h.list.ifs leaf).less _ fun _ _ _ _ => trivial
theorem tells_kid : ∃ enc ok, Tells wkid enc (fun k => k.2.length = 32) ok := (tells_text.seq tells_digest).less _ fun _ h => ⟨trivial, h⟩
theorem tells_node : ∃ enc ok, Tells (fun (n : Node) x => wkids n.2 (wnum n.2.length (wleaf n.1 x))) enc (fun n => ∀ k ∈ n.2, k.2.length = 32) ok := by
  obtain ⟨enc, ok, h⟩ := tells_leaf
  obtain ⟨enc', ok', h'⟩ := tells_kid
  exact (h.seq h'.list).less _ fun _ h => ⟨trivial, h⟩
theorem nbytes_out {n : Node} (h : (nbytes n).2 = 0) : (nbytes n).1 = (wnode n).1 ∧ (wnode n).2 = 0 := by
  unfold nbytes at h ⊢
  by_cases hc : ncheck n = 0
  · have hc' : ¬ ncheck n ≠ 0 := fun h => h hc
    rw [if_neg hc'] at h ⊢
    unfold wdone at h ⊢
    by_cases hw : (wnode n).2 = 0
    · rw [if_pos hw]; exact ⟨rfl, hw⟩
    · rw [if_neg hw] at h; exact absurd h hw
  · rw [if_pos hc] at h; exact absurd h hc
/-- The bytes of a node tell the node. -/
theorem nbytes_inj {n m : Node} (hn : (nbytes n).2 = 0) (hm : (nbytes m).2 = 0) (kn : ∀ k ∈ n.2, k.2.length = 32) (km : ∀ k ∈ m.2, k.2.length = 32) (h : (nbytes n).1 = (nbytes m).1) : n = m := by
  obtain ⟨n1, n2⟩ := nbytes_out hn
  obtain ⟨m1, m2⟩ := nbytes_out hm
  rw [n1, m1] at h
  obtain ⟨enc, ok, T⟩ := tells_node
  obtain ⟨_, a2, a3⟩ := T.out n ([], 0) kn n2
  obtain ⟨_, b2, b3⟩ := T.out m ([], 0) km m2
  have e : (wnode n).1 = (wnode m).1 := h
  unfold wnode at e
  simp only at a2 b2
  rw [a2, b2] at e
  refine (T.inj n m [] [] a3 b3 ?_).1
  simpa using e
end Sp
end Go.Proofs.YtmlfnidckfeebaaGreatDoor
