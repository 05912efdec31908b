/- Walks: versions that nobody else has: each of their rows is of its own type. Walks: each: a tree's own range. -/
import Derived.Test.YtmlkachfahabnaaGreatDoorTA24
import Derived.Test.YtmlkachfahabnaaGreatDoorTA33
import Derived.Test.YtmlkachfahabnaaGreatDoorTA41
import Derived.Test.YtmlkachfahabnaaGreatDoorTA42
import Derived.Test.YtmlkachfahabnaaGreatDoorTA35
namespace Go.Proofs.YtmlkachfahabnaaGreatDoor
open Go.RowKit Go.Shelf
attribute [local go_sem] yUpon
theorem own_lowT {w : World} {b b' n : Nat} {e : TypeId} {size : Nat} {v : Value} {xs : List Value} (h : w.ownsRow b e size v n xs) (hb : b' ≤ b) : w.ownsRow b' e size v n xs := by
  refine ⟨h.1, ?_⟩
  rcases h.2 with h2 | ⟨g, cap, cur, hv, hg, rest⟩
  · exact .inl h2
  · exact .inr ⟨g, cap, cur, hv, Nat.le_trans hb hg, rest⟩
theorem own_keep {T : TypeId → Prop} {e : TypeId} (hT : ¬ T e) {B b n size : Nat} {w w' : World} {v : Value} {xs : List Value} (h : w.ownsRow b e size v n xs) (k : KB T B w w') : w'.ownsRow b e size v n xs := by
  refine ⟨h.1, ?_⟩
  rcases h.2 with h2 | ⟨g, cap, cur, hv, hg, hh, rest⟩
  · exact .inl h2
  · exact .inr ⟨g, cap, cur, hv, hg, k.row _ _ _ _ hh hT, rest⟩
/-- Where a version's vector lies, in a row of dots. -/
def PastT (w : World) (x : Option Addr × Nat × Sp.Ver) : Prop := w.ownsRow 0 45 2 (.slice x.1 x.2.2.past.length x.2.1) x.2.2.past.length (dotsC x.2.2.past) ∧ x.2.2.past.length ≤ 140737488351232
/-- Versions in rows of their own types. -/
def OwnVersT (w : World) (v : Value) (l : List Sp.Ver) : Prop := ∃ m : List (Option Addr × Nat × Sp.Ver), m.map (·.2.2) = l ∧ w.ownsRow 0 48 5 v l.length (versC m) ∧ ∀ x ∈ m, PastT w x
theorem OwnVersT.keep {T : TypeId → Prop} (h1 : ¬ T 48) (h2 : ¬ T 45) {B : Nat} {w w' : World} {v : Value} {l : List Sp.Ver} (h : OwnVersT w v l) (k : KB T B w w') : OwnVersT w' v l := by
  obtain ⟨m, e1, e2, e3⟩ := h
  exact ⟨m, e1, own_keep h1 e2 k, fun x hx => ⟨own_keep h2 (e3 x hx).1 k, (e3 x hx).2⟩⟩
theorem OwnVersT.read {w : World} {v : Value} {l : List Sp.Ver} (h : OwnVersT w v l) : ∃ A cap, v = .slice A l.length cap ∧ Vers w A l := by
  obtain ⟨m, h1, h2, h3⟩ := h
  obtain ⟨A, cap, hv, hc⟩ := own_read h2
  refine ⟨A, cap, hv, m, h1, hc, fun x hx => ⟨?_, (h3 x hx).2⟩⟩
  obtain ⟨A2, c2, e2, hd⟩ := own_read (h3 x hx).1
  cases e2
  exact hd
set_option maxRecDepth 100000 in
set_option maxHeartbeats 4000000 in
theorem copiedT_calls (l : List Sp.Ver) (A : Option Addr) (cap : Nat) (w : World) (hV : Vers w A l) (hl : l.length ≤ 1000000) (hp : ∀ v ∈ l, v.past.length ≤ 1000000) :
    Calls Tryz.prog 22 #[.slice A l.length cap] w fun e w' => ∃ v, e = .returned v ∧ OwnVersT w' v l ∧ Ext w w' := by
  obtain ⟨m, hm, hc, hps⟩ := hV
  have hml : m.length = l.length := by rw [← hm]; simp
  have CV := Lib.hid (cloneVer (versC m) l.length cap A w hc (by rw [versC_len, hml]) (versC_one m) (by omega))
  go_enter Tryz.func22, Tryz.ntmps22
  go_wp2_with fail
  refine CV.out.mono ?_
  rintro e w1 ⟨v1, rfl, hO, hb1⟩
  rcases own_form hO with ⟨rfl, hl0, _⟩ | ⟨gv, cv, rfl, hgv, hgl⟩
  · have hl0' : l = [] := List.eq_nil_of_length_eq_zero hl0
    subst hl0'
    go_wp2
    go_loopw [9] (fun v9 wr => v9 = .int .i64 0 ∧ wr = w1) (fun _ _ => 0)
    case atStart => exact ⟨rfl, rfl⟩
    case round =>
      obtain ⟨rfl, rfl⟩ := hrel
      go_wp2
      go_ret
      exact ⟨_, rfl, ⟨[], rfl, World.ownsRow_nil _ _ _ _, fun _ h => by cases h⟩, hb1⟩
  · have HM := Lib.hid hm
    have HPS := Lib.hid hps
    have HO := Lib.hid hO
    have HB1 := Lib.hid hb1
    clear hO hb1 hc hm hps
    go_wp2
    go_loopw [9] (fun v9 wr => ∃ (k : Nat) (m' : List (Option Addr × Nat × Sp.Ver)), k ≤ l.length ∧ v9 = .int .i64 k ∧ m'.map (·.2.2) = l ∧ wr.ownsRow w.heap.size 48 5 (.slice (some ⟨gv, 0, none⟩) l.length cv) l.length (versC m') ∧
      (∀ i (h : i < m'.length), (i < k → (∀ a, m'[i].1 = some a → gv < a.block) ∧ PastT wr m'[i]) ∧ (k ≤ i → Past w m'[i].1 m'[i].2.2)) ∧ Ext w wr ∧ gv < wr.heap.size) (fun v9 _ => l.length - (intOf v9).toNat)
    case atStart => exact ⟨0, m, Nat.zero_le _, rfl, HM.out, HO.out, fun i h => ⟨fun h0 => by omega, fun _ => HPS.out _ (List.getElem_mem h)⟩, HB1.out, hgl⟩
    case round =>
      obtain ⟨k, m', hk, rfl, hmm, hO, hP, hb, hgw⟩ := hrel
      have hml' : m'.length = l.length := by rw [← hmm]; simp
      by_cases hlt : k < l.length
      · have hkm : k < m'.length := by omega
        obtain ⟨c2, f2, hBg, _⟩ := own_isBlk hO (k * 5 + 2) _ ((versC_get m' k 2 hkm (by decide)).trans rfl)
        have pk := (hP k hkm).2 (Nat.le_refl _)
        have hpl : m'[k].2.2.past.length ≤ 1000000 := hp _ (by rw [← hmm]; exact List.mem_map.2 ⟨m'[k], List.getElem_mem hkm, rfl⟩)
        have CD := Lib.hid (cloneDot (dotsC m'[k].2.2.past) m'[k].2.2.past.length m'[k].2.1 m'[k].1 wr (pk.ext hb).1 (dotsC_len _) (dotsC_one _) (by omega))
        have EP := Lib.hid fun (W : World) (x : Option Addr × Nat × Sp.Ver) (hx : x ∈ m') => hx
        have O0 := Lib.hid hO
        have P0 := Lib.hid hP
        have HB := Lib.hid hb
        have HMM := Lib.hid hmm
        have HGW := Lib.hid hgw
        have PL := Lib.hid pk.2
        have B1 : (k : Int) < (l.length : Int) := by omega
        obtain ⟨x, hx⟩ : ∃ x, x = m'[k] := ⟨_, rfl⟩
        rw [← hx] at c2 CD PL hpl
        have HX := Lib.hid hx
        clear hO hP hb hmm hgw pk EP hx
        go_wp2_with fail
        refine CD.out.mono ?_
        rintro e w2 ⟨v2, rfl, hO2, hb2⟩
        obtain ⟨A2, cp2, rfl, hC2⟩ := own_read hO2
        have off := own_off hO2
        have c2' := hb2.cell c2
        have f2' : w2.frozen? ⟨gv, k * 5 + 2, none⟩ = false := by
          have := hb2.block gv HGW.out
          rw [World.frozen?_of_block (a := ⟨gv, k * 5 + 2, none⟩) this]; exact f2
        have O2 := Lib.hid hO2
        have C2 := Lib.hid hC2
        have OFF := Lib.hid off
        have HB2 := Lib.hid hb2
        clear hO2 hC2 off hb2 c2 f2
        go_wp2_with fail
        have hj : k * 5 + 2 < (versC m').length := by rw [versC_len]; omega
        have O3 := own_set (owned_below O0.out HB2.out) (k * 5 + 2) hj (.slice A2 x.2.2.past.length cp2)
        have VS := versC_set m' k A2 cp2 hkm
        rw [← HX.out] at VS
        rw [VS] at O3
        have hlk : x.2.2 = l[k] := by
          have : l[k]? = some x.2.2 := by rw [← HMM.out, List.getElem?_map, List.getElem?_eq_getElem hkm, ← HX.out]; rfl
          rw [List.getElem?_eq_getElem hlt] at this
          exact (Option.some.inj this).symm
        have hmap : (m'.set k (A2, cp2, x.2.2)).map (·.2.2) = l := by
          rw [List.map_set, HMM.out]
          show l.set k x.2.2 = l
          rw [hlk, List.set_getElem_self]
        have on : Only gv w2 (w2.setCell ⟨gv, k * 5 + 2, none⟩ (.slice A2 x.2.2.past.length cp2)) := Only.set _ _ _ _
        refine ⟨⟨k + 1, m'.set k (A2, cp2, x.2.2), by omega, by go_num, hmap, O3, fun i hi => ?_, (HB.out.trans HB2.out).setCell hBg _, by have := HB2.out.size; have := HGW.out; simp; omega⟩, by simp [intOf]; omega⟩
        have hi' : i < m'.length := by simpa using hi
        rw [List.getElem_set]
        by_cases hik : k = i
        · rw [if_pos hik]
          refine ⟨fun _ => ⟨fun a ha => by have := OFF.out a ha; have := HGW.out; omega, own_apart (own_lowT O2.out (Nat.zero_le _)) on (fun e => ?_), PL.out⟩, fun h => by omega⟩
          cases hA2 : A2 with
          | none => rw [hA2] at e; cases e
          | some a =>
            rw [hA2] at e
            have e3 : a.block = gv := Option.some.inj e
            have := OFF.out a hA2
            have := HGW.out
            omega
        · rw [if_neg hik]
          obtain ⟨p1, p2⟩ := P0.out i hi'
          refine ⟨fun h => ?_, fun h => p2 (by omega)⟩
          obtain ⟨q1, q2⟩ := p1 (by omega)
          refine ⟨q1, own_apart (own_ext q2.1 HB2.out) on (fun e => ?_), q2.2⟩
          cases hA2 : m'[i].1 with
          | none => rw [hA2] at e; cases e
          | some a =>
            rw [hA2] at e
            have e3 : a.block = gv := Option.some.inj e
            have := q1 a hA2
            omega
      · obtain rfl : k = l.length := by omega
        go_wp2
        go_ret
        exact ⟨_, rfl, ⟨m', hmm, own_lowT hO (Nat.zero_le _), fun x hx => by
          obtain ⟨i, hi, rfl⟩ := List.getElem_of_mem hx
          exact ((hP i hi).1 (by omega)).2⟩, hb⟩
end Go.Proofs.YtmlkachfahabnaaGreatDoor
namespace Go.Proofs.YtmlkachfahabnaaGreatDoor
open Go.RowKit Go.Shelf
attribute [local go_sem] yUpon strOf_toList Oper.semAt_some
set_option maxRecDepth 100000 in
set_option maxHeartbeats 4000000 in
theorem root_some (t : Sp.T) (v : Value) (w : World) (h : TreeAt w v (some t)) : ∃ g, InnerAt w g t ∧ ∀ W, Ext w W → Calls Tryz.prog 25 #[v] W fun e W' => e = .returned (.pointer (some ⟨g, 0, none⟩)) ∧ W = W' := by
  rcases h with ⟨h, _⟩ | ⟨g, p, rfl, hx, ⟨h, _⟩ | ⟨g1, t1, ht, rfl, hi⟩⟩
  · cases h
  · cases h
  · cases ht
    refine ⟨g1, hi, fun W e => ?_⟩
    have f0 := ((hx.below e).cell 0).trans rfl
    go_enter Tryz.func25, Tryz.ntmps25
    go_wp2
    go_ret
    exact ⟨rfl, rfl⟩
theorem each_calls (a : Option Addr) (w : World) : Calls Tryz.prog 21 #[.pointer a] w fun e w' => e = .returned (.func (.func 42) #[] #[.pointer (some ⟨w.heap.size, 0, none⟩)]) ∧ w' = w.alloc (.cells #[.pointer a] 25) := by
  go_enter Tryz.func21, Tryz.ntmps21
  go_wp2_with fail
  go_ret
  exact ⟨rfl, rfl⟩
/-- What a tree's range tells, of any rounds that keep rows of text. -/
def Lists (w0 : World) (v : Value) (T : TypeId → Prop) (m : List LE) : Prop :=
  ∀ (n l : Nat) (J : Nat → World → Prop) (gb : Nat) (W : World), (∀ i W W', J i W → Ext W W' → J i W') → (∀ i W, J i W → Ext w0 W) → Tells T w0.heap.size l m J → isBlk W gb 25 #[v] → J 0 W →
    CallsIn Fence.wide n Tryz.prog 42 #[.func (.yield l) #[] #[], .pointer (some ⟨gb, 0, none⟩)] W fun e W' => (∃ v, e = .returned v) ∧ J m.length W'
theorem each_in {w0 : World} {T : TypeId → Prop} (hT : ¬ T 9) (o : Option Sp.T) (v : Value) (h : TreeAt w0 v o) (hg : Sp.GoodO o) (hd : ∀ x ∈ Sp.entriesO o, x.1.length ≤ 60) (K : KeysAt w0 2) :
    ∃ m : List LE, m.map (·.2.2) = Sp.entriesO o ∧ (∀ x ∈ m, Vers w0 x.1 x.2.2.2) ∧ Lists w0 v T m := by
  have tokZ : True := trivial
  cases o with
  | none =>
    refine ⟨[], rfl, (fun x h => by cases h), fun n l J gb W hJx hJ0 hY hb hJ => ?_⟩
    have RC := Lib.hid (root_calls none v W (h.ext (hJ0 _ _ hJ)) (K.ext (hJ0 _ _ hJ)))
    have JX := Lib.hid hJx
    have J0 := Lib.hid hJ
    have f0 := (hb.cell 0).trans rfl
    clear hJx hJ0 hY hb hJ h K hd hg
    refine callsIn_of_wp Tryz.func42 rfl trivial ?_ rfl
    simp only [Tryz.ntmps42, List.size_toArray, List.length_cons, List.length_nil, Nat.reduceAdd, Nat.reduceSub, Array.replicate_succ, Array.replicate_zero, List.push_toArray, List.append_toArray, List.nil_append, List.cons_append]
    gi_wp2_with fail
    refine ⟨trivial, (fun h => by cases h), callsIn_of (RC.out.mono ?_)⟩
    rintro e w1 ⟨g1, rfl, hi, hb1⟩
    obtain ⟨m1, hm1⟩ := list_of hi
    have h0 : m1 = [] := by
      have := list_entries hm1
      exact List.map_eq_nil_iff.1 this
    subst h0
    have JJ := Lib.hid (JX.out _ _ _ J0.out hb1)
    have AI := Lib.hid (all_in (w0 := w1) (T := T) hT hm1 (n - 1) [] (.slice none 0 0) l [] (fun i W => J i W ∧ Ext w1 W) 0 w1 ⟨fun h => absurd rfl h, List.Pairwise.nil, trivial⟩ (by decide) (fun i W W' h e => ⟨JX.out _ _ _ h.1 e, h.2.trans e⟩) (fun i W h => h.2) (fun i hi => absurd hi (Nat.not_lt_zero i)) (fun j h => absurd h (Nat.not_lt_zero j)) (fun x h => by cases h) (by decide) (fun s h => by cases h) (DirAt.nil _) ⟨JJ.out, Ext.refl _⟩)
    clear hi hb1 hm1 RC f0
    gi_wp2_with fail
    refine ⟨trivial, (fun h => by cases h), AI.out.mono ?_⟩
    rintro e w2 ⟨rfl, ⟨hj, _⟩, _⟩
    have J2 := Lib.hid hj
    clear hj
    gi_wp2_with fail
    go_end0
    exact ⟨⟨_, rfl⟩, J2.out⟩
  | some t =>
    obtain ⟨g, hi, hr⟩ := root_some t v w0 h
    obtain ⟨m, hm⟩ := list_of hi
    have hme := list_entries hm
    refine ⟨m, hme, list_vers hm, fun n l J gb W hJx hJ0 hY hb hJ => ?_⟩
    have RC := Lib.hid (hr W (hJ0 _ _ hJ))
    have f0 := (hb.cell 0).trans rfl
    have AI := Lib.hid fun W2 (e : Ext W W2) => all_in (T := T) hT hm (n - 1) [] (.slice none 0 0) l m J 0 W2 (hg.1 t rfl) (by
        have h1 : (Sp.entriesO (some t)).length ≤ 128 := hg.2
        rw [Sp.sizeT_len]
        exact Nat.le_trans h1 (by decide)) hJx hJ0 hY (fun j h => by rw [Nat.zero_add, List.getElem?_eq_getElem h]; rfl) (fun x hx => by
        have := hd x.2.2 (by rw [show Sp.entriesO (some t) = Sp.entries t from rfl, ← hme]; exact List.mem_map_of_mem hx)
        simpa using this) (by decide) (fun s h => by cases h) (DirAt.nil _) (hJx _ _ _ hJ e)
    clear hJx hJ0 hY hb hJ h K hd hg hm hme hi hr
    refine callsIn_of_wp Tryz.func42 rfl trivial ?_ rfl
    simp only [Tryz.ntmps42, List.size_toArray, List.length_cons, List.length_nil, Nat.reduceAdd, Nat.reduceSub, Array.replicate_succ, Array.replicate_zero, List.push_toArray, List.append_toArray, List.nil_append, List.cons_append]
    gi_wp2_with fail
    refine ⟨trivial, (fun h => by cases h), callsIn_of (RC.out.mono ?_)⟩
    rintro e w1 ⟨rfl, rfl⟩
    gi_wp2_with fail
    refine ⟨trivial, (fun h => by cases h), (AI.out _ (Ext.refl _)).mono ?_⟩
    rintro e w2 ⟨rfl, hj, _⟩
    rw [Nat.zero_add] at hj
    have J2 := Lib.hid hj
    clear hj
    gi_wp2_with fail
    go_end0
    exact ⟨⟨_, rfl⟩, J2.out⟩
end Go.Proofs.YtmlkachfahabnaaGreatDoor
