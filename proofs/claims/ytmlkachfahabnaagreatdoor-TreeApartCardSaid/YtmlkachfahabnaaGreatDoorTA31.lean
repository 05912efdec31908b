/- The document's trees: rising entries, their paths as texts: plain. What the document finds at a directory of its list, and what the tree has there: plain. Walks: what stands at a directory, if it has something; what stands at the root. -/
import Derived.Test.YtmlkachfahabnaaGreatDoorTA28
import Derived.Test.YtmlkachfahabnaaGreatDoorTA30
namespace Go.Proofs.YtmlkachfahabnaaGreatDoor
open Go.RowKit
namespace Sp
abbrev DE := Bs × List Ver
def toP (m : List DE) : List PE := m.map fun e => (split e.1, e.2)
def joinP : List Bs → Bs
  | [] => []
  | [a] => a
  | a :: b :: r => a ++ 47 :: joinP (b :: r)
theorem join_split : ∀ s, joinP (split s) = s
  | [] => rfl
  | c :: r => by
    have ih := join_split r
    unfold split
    split
    · rename_i h
      cases hs : split r with
      | nil => exact absurd hs (split_ne r)
      | cons a t => rw [hs] at ih; rw [joinP, ih, h]; rfl
    · cases hs : split r with
      | nil => exact absurd hs (split_ne r)
      | cons a t =>
        rw [hs] at ih
        cases t with
        | nil => simpa [joinP] using ih
        | cons b t => simpa [joinP] using ih
theorem split_inj {a b : Bs} (h : split a = split b) : a = b := by rw [← join_split a, h, join_split]
theorem cmpP_trans : ∀ (a b c : List Bs), cmpP a b = -1 → cmpP b c = -1 → cmpP a c = -1
  | [], [], _, h, _ => by simp [cmpP] at h
  | [], _ :: _, [], _, h => by simp [cmpP] at h
  | [], _ :: _, _ :: _, _, _ => rfl
  | _ :: _, [], _, h, _ => by simp [cmpP] at h
  | _ :: _, _ :: _, [], _, h => by simp [cmpP] at h
  | x :: a, y :: b, z :: c, h, k => by
    unfold cmpP at h k ⊢
    by_cases h1 : x = y
    · subst h1
      rw [if_pos rfl] at h
      by_cases h2 : x = z
      · rw [if_pos h2] at k ⊢
        exact cmpP_trans a b c h k
      · rw [if_neg h2] at k ⊢
        exact k
    · rw [if_neg h1] at h
      have g1 := (less_cmp x y).2 h
      by_cases h2 : y = z
      · subst h2
        rw [if_neg h1]
        exact h
      · rw [if_neg h2] at k
        have g2 := less_trans g1 ((less_cmp y z).2 k)
        have h3 : x ≠ z := by rintro rfl; rw [less_irr] at g2; cases g2
        rw [if_neg h3]
        exact (less_cmp x z).1 g2
theorem cmpP_self : ∀ a : List Bs, cmpP a a = 0
  | [] => rfl
  | x :: a => by rw [cmpP, if_pos rfl, cmpP_self a]
theorem cmpP_zero : ∀ {a b : List Bs}, cmpP a b = 0 → a = b
  | [], [], _ => rfl
  | [], _ :: _, h => by simp [cmpP] at h
  | _ :: _, [], h => by simp [cmpP] at h
  | x :: a, y :: b, h => by
    unfold cmpP at h
    by_cases h1 : x = y
    · rw [if_pos h1] at h; rw [h1, cmpP_zero h]
    · rw [if_neg h1] at h; exact absurd ((cmpB_eq x y).1 h) h1
/-- The document's list with a leaf at a path, from an entry on. -/
def rgo (p : Bs) (l : List Ver) : Bool → List DE → List DE
  | put, [] => if put then [] else [(p, l)]
  | put, e :: r => (if put = false ∧ compare p e.1 ≤ 0 then [(p, l)] else []) ++ ((if e.1 = p then [] else [e]) ++ rgo p l (put || decide (compare p e.1 ≤ 0)) r)
def rset (m : List DE) (p : Bs) (l : List Ver) : List DE := rgo p l (decide (l = [])) m
def RiseE (E : List PE) : Prop := E.Pairwise fun a b => cmpP a.1 b.1 = -1
theorem rgo_true (p : Bs) (l : List Ver) : ∀ m : List DE, (∀ e ∈ m, e.1 ≠ p) → rgo p l true m = m
  | [], _ => rfl
  | e :: r, h => by
    rw [rgo, if_neg (by simp), if_neg (h e (List.mem_cons_self ..)), Bool.true_or, rgo_true p l r fun x hx => h x (List.mem_cons_of_mem _ hx)]
    rfl
theorem rgo_setE (p : Bs) (l : List Ver) : ∀ m : List DE, RiseE (toP m) → toP (rset m p l) = setE (toP m) (split p) l
  | [], _ => by
    unfold rset
    by_cases hl : l = [] <;> simp [rgo, setE, toP, hl]
  | e :: r, h => by
    have hr := List.pairwise_cons.1 h
    have ih := rgo_setE p l r hr.2
    have low : ∀ x ∈ r, cmpP (split e.1) (split x.1) = -1 := fun x hx => hr.1 (split x.1, x.2) (List.mem_map_of_mem hx)
    unfold rset at ih ⊢
    rw [rgo, show toP (e :: r) = (split e.1, e.2) :: toP r from rfl, setE]
    by_cases h1 : e.1 = p
    · have h2 : split e.1 = split p := by rw [h1]
      have ne : ∀ x ∈ r, x.1 ≠ p := fun x hx hp => by
        have := low x hx
        rw [h2, hp, cmpP_self] at this; cases this
      have c0 : compare p e.1 ≤ 0 := by unfold compare; rw [h2, cmpP_self]; exact Int.le_refl _
      rw [if_pos h1, if_pos h2]
      simp only [c0, and_true, decide_true, Bool.or_true, rgo_true p l r ne]
      by_cases hl : l = [] <;> simp [hl, toP]
    · have h2 : ¬ split e.1 = split p := fun hh => h1 (split_inj hh)
      rw [if_neg h1, if_neg h2]
      by_cases h3 : cmpP (split p) (split e.1) < 0
      · have h4 : cmpP (split p) (split e.1) = -1 := by rcases cmpP_range (split p) (split e.1) with h | h | h <;> omega
        have ne : ∀ x ∈ r, x.1 ≠ p := fun x hx hp => by
          have := cmpP_trans _ _ _ h4 (low x hx)
          rw [hp, cmpP_self] at this; cases this
        have c0 : compare p e.1 ≤ 0 := by unfold compare; omega
        rw [if_pos h3]
        simp only [c0, and_true, decide_true, Bool.or_true, rgo_true p l r ne]
        by_cases hl : l = [] <;> simp [hl, toP]
      · have c0 : ¬ compare p e.1 ≤ 0 := by
          unfold compare
          intro hc
          have : cmpP (split p) (split e.1) = 0 := by omega
          exact h2 (cmpP_zero this).symm
        rw [if_neg h3]
        simp only [c0, and_false, decide_false, Bool.or_false, if_false, List.nil_append]
        rw [← ih]
        rfl
/-- All of one below what stands ahead of it. -/
theorem head_less {m n : Bs} (h : Op.bytesLess m n = true) (a b : List Bs) : cmpP (m :: a) (n :: b) = -1 := by
  have : m ≠ n := by rintro rfl; rw [less_irr] at h; cases h
  rw [cmpP, if_neg this]
  exact (less_cmp m n).1 h
mutual
theorem entries_rise : ∀ t, Ok t → RiseE (entries t)
  | .mk leaf kids, h => by
    obtain ⟨_, hr, hk⟩ := h
    have ih := entriesL_rise kids hr hk
    unfold entries RiseE
    by_cases hl : leaf = []
    · rw [if_pos hl, List.nil_append]; exact ih
    · rw [if_neg hl, List.singleton_append, List.pairwise_cons]
      refine ⟨fun e he => ?_, ih⟩
      obtain ⟨n, q, h1, _⟩ := entriesL_ne kids e he
      rw [h1]; rfl
theorem entriesL_rise : ∀ k, Rise k → OkL k → RiseE (entriesL k)
  | [], _, _ => List.Pairwise.nil
  | (n, t) :: r, hr, hk => by
    have hr2 := List.pairwise_cons.1 hr
    have i1 := entries_rise t hk.2.2.1
    have i2 := entriesL_rise r hr2.2 hk.2.2.2
    unfold entriesL RiseE
    rw [List.pairwise_append]
    refine ⟨List.pairwise_map.2 (i1.imp fun {a b} hab => ?_), i2, ?_⟩
    · show cmpP (n :: a.1) (n :: b.1) = -1
      rw [cmpP, if_pos rfl]; exact hab
    · intro a ha b hb
      obtain ⟨c, _, rfl⟩ := List.mem_map.1 ha
      obtain ⟨x, q, h1, h2⟩ := entriesL_ne r b hb
      rw [h1]
      exact head_less (hr2.1 x h2) _ _
end
end Sp
end Go.Proofs.YtmlkachfahabnaaGreatDoor
namespace Go.Proofs.YtmlkachfahabnaaGreatDoor
open Go.RowKit
namespace Sp
/-- A path without what it is below. -/
def stripP : List Bs → List Bs → Option (List Bs)
  | [], q => some q
  | _ :: _, [] => none
  | n :: d, m :: q => if m = n then stripP d q else none
def subs : List PE → List Bs → List PE
  | E, [] => E
  | E, n :: d => subs (sub1 E n) d
theorem subs_nil : ∀ d, subs [] d = []
  | [] => rfl
  | _ :: d => subs_nil d
theorem subs_strip : ∀ (d : List Bs) (E : List PE), subs E d = E.filterMap fun e => (stripP d e.1).map fun q => (q, e.2)
  | [], E => by simp [subs, stripP]
  | n :: d, E => by
    rw [subs, subs_strip d, sub1, List.filterMap_filterMap]
    congr 1
    funext e
    rcases e with ⟨q, l⟩
    cases q with
    | nil => rfl
    | cons m q =>
      by_cases h : m = n <;> simp [stripP, h]
theorem stripP_nil : ∀ (d q : List Bs), stripP d q = some [] ↔ q = d
  | [], q => by simp [stripP]
  | n :: d, [] => by simp [stripP]
  | n :: d, m :: q => by
    by_cases h : m = n
    · simp [stripP, h, stripP_nil d q]
    · simp [stripP, h]
theorem stripP_some : ∀ (d q r : List Bs), stripP d q = some r ↔ q = d ++ r
  | [], q, r => by simp [stripP]
  | n :: d, [], r => by simp [stripP]
  | n :: d, m :: q, r => by
    by_cases h : m = n
    · simp [stripP, h, stripP_some d q r]
    · simp [stripP, h]
/-- The leaf at a path. -/
def rget : List DE → Bs → List Ver
  | [], _ => []
  | e :: r, p => if e.1 = p then e.2 else rget r p
/-- Is a path below a directory? -/
def under (p d : Bs) : Bool := decide (parts p ≠ []) && (decide (d = []) || decide (parts d ≠ [])) && decide ((parts d).length < (parts p).length) && decide ((parts p).take (parts d).length = parts d)
/-- The names right below a directory, from an entry on. -/
def rnames (d : Bs) : List Bs → List DE → List Bs
  | out, [] => out
  | out, e :: r => if under e.1 d then (let s := (parts e.1).getD (parts d).length []; rnames d (if out.getLast? = some s then out else out ++ [s]) r) else rnames d out r
def Paths (m : List DE) : Prop := ∀ e ∈ m, check e.1 = 0
theorem check_parts {p : Bs} (h : check p = 0) : parts p = split p ∧ p.length ≤ 51 ∧ (split p).length ≤ 4 ∧ (split p).all name = true := by
  unfold check at h
  split at h
  · omega
  · rename_i h1
    split at h
    · omega
    · rename_i h2
      unfold parts at h2 ⊢
      rw [if_neg h1] at h2 ⊢
      split at h2
      · exact absurd rfl h2
      · rename_i h3
        rw [if_neg h3]
        split at h2
        · rename_i h4
          exact ⟨if_pos h4, by omega, by omega, h4⟩
        · exact absurd rfl h2
theorem check_nil : check [] ≠ 0 := by decide
def Dir (d : Bs) : Prop := d = [] ∨ check d = 0
theorem parts_empty : parts [] = [] := by decide
theorem dir_parts {d : Bs} (h : Dir d) : (decide (d = []) || decide (parts d ≠ [])) = true := by
  rcases h with rfl | h
  · simp
  · have := (check_parts h).1
    have h2 := split_ne d
    rw [← this] at h2
    simp [h2]
theorem get_subs (m : List DE) (hm : Paths m) (d : Bs) (hd : Dir d) : rget m d = get0 (subs (toP m) (parts d)) := by
  induction m with
  | nil => rw [show toP [] = [] from rfl, subs_nil]; rfl
  | cons e r ih =>
    have ih := ih fun x hx => hm x (List.mem_cons_of_mem _ hx)
    have he := check_parts (hm e (List.mem_cons_self ..))
    rw [subs_strip] at ih ⊢
    rw [show toP (e :: r) = (split e.1, e.2) :: toP r from rfl, rget]
    by_cases h : e.1 = d
    · have hs : stripP (parts d) (split e.1) = some [] := by rw [stripP_nil, ← he.1, h]
      rw [if_pos h, List.filterMap_cons, hs]
      rfl
    · rw [if_neg h, ih, List.filterMap_cons]
      cases hs : stripP (parts d) (split e.1) with
      | none => rfl
      | some q =>
        have hq : q ≠ [] := by
          rintro rfl
          rw [stripP_nil] at hs
          rcases hd with rfl | hd
          · rw [parts_empty] at hs; exact split_ne _ hs
          · rw [(check_parts hd).1] at hs; exact h (split_inj hs)
        show _ = get0 ((q, e.2) :: _)
        rw [get0, if_neg hq]
theorem under_strip {p d : Bs} (hp : check p = 0) (hd : Dir d) : under p d = true ↔ ∃ n q, stripP (parts d) (split p) = some (n :: q) := by
  have h1 := (check_parts hp).1
  have h2 := split_ne p
  unfold under
  rw [dir_parts hd, h1]
  simp only [ne_eq, h2, not_false_eq_true, decide_true, Bool.true_and, Bool.and_eq_true, decide_eq_true_eq, stripP_some]
  constructor
  · rintro ⟨h3, h4⟩
    have h5 := List.take_append_drop (parts d).length (split p)
    rw [h4] at h5
    cases hx : (split p).drop (parts d).length with
    | nil => rw [List.drop_eq_nil_iff] at hx; omega
    | cons n q => exact ⟨n, q, by rw [← hx, h5]⟩
  · rintro ⟨n, q, h⟩
    rw [h]
    exact ⟨by simp, by simp⟩
theorem names_subs (d : Bs) (hd : Dir d) : ∀ (m : List DE), Paths m → ∀ out, rnames d out m = namesE out (subs (toP m) (parts d))
  | [], _, out => by rw [show toP [] = [] from rfl, subs_nil]; rfl
  | e :: r, hm, out => by
    have he := hm e (List.mem_cons_self ..)
    have ih := names_subs d hd r fun x hx => hm x (List.mem_cons_of_mem _ hx)
    have hu := under_strip he hd
    simp only [subs_strip] at ih ⊢
    rw [show toP (e :: r) = (split e.1, e.2) :: toP r from rfl, rnames, List.filterMap_cons]
    by_cases h : under e.1 d = true
    · obtain ⟨n, q, hs⟩ := hu.1 h
      rw [if_pos h, hs]
      have hg : (parts e.1).getD (parts d).length [] = n := by
        rw [(check_parts he).1, (stripP_some _ _ _).1 hs]
        simp
      show rnames d (if out.getLast? = some ((parts e.1).getD (parts d).length []) then out else out ++ [(parts e.1).getD (parts d).length []]) r = namesE out ((n :: q, e.2) :: _)
      rw [hg, ih, namesE]
    · rw [if_neg h, ih]
      cases hs : stripP (parts d) (split e.1) with
      | none => rfl
      | some q =>
        cases q with
        | nil => rfl
        | cons n q => exact absurd (hu.2 ⟨n, q, hs⟩) h
/-- What the tree has at a directory. -/
def findT : T → List Bs → Option T
  | t, [] => some t
  | t, n :: d => (kid t.kids n).bind fun s => findT s d
theorem kid_ne : ∀ (k : List (Bs × T)) (p : Bs) (t : T), OkL k → kid k p = some t → entries t ≠ []
  | [], _, _, _, h => by cases h
  | (m, s) :: r, p, t, hk, h => by
    rw [kid] at h
    split at h
    · cases h; exact hk.2.1
    · exact kid_ne r p t hk.2.2.2 h
end Sp
end Go.Proofs.YtmlkachfahabnaaGreatDoor
namespace Go.Proofs.YtmlkachfahabnaaGreatDoor
open Go.RowKit Go.Shelf
attribute [local go_sem] yUpon
namespace Sp
/-- What is not too great to be walked. -/
def Fit (t : T) : Prop := t.leaf.length ≤ 1000000 ∧ (∀ v ∈ t.leaf, v.past.length ≤ 1000000) ∧ t.kids.length ≤ 1000000 ∧ (∀ x ∈ t.kids, x.1.length ≤ 1000000) ∧ sizeT t ≤ 1000000000
theorem kids_size : ∀ (k : List (Bs × T)), OkL k → k.length ≤ sizeL k
  | [], _ => Nat.le_refl _
  | (n, t) :: r, h => by
    have ih := kids_size r h.2.2.2
    have h1 : (entries t).length ≠ 0 := fun e => h.2.1 (List.eq_nil_of_length_eq_zero e)
    rw [← sizeT_len] at h1
    rw [sizeL, List.length_cons]
    omega
theorem name_len {n : Bs} (h : name n = true) : n.length ≤ 12 := by
  unfold name at h
  simp only [Bool.and_eq_true, decide_eq_true_eq] at h
  exact h.1.1.1.2
theorem kids_names : ∀ (k : List (Bs × T)), OkL k → ∀ x ∈ k, name x.1 = true
  | [], _, x, h => by cases h
  | (n, t) :: r, hk, x, h => by
    rcases List.mem_cons.1 h with rfl | h
    · exact hk.1
    · exact kids_names r hk.2.2.2 x h
theorem leaf_fit {l : List Ver} (h : l ≠ [] → leaf l = 0) : l.length ≤ 64 ∧ ∀ v ∈ l, v.past.length ≤ 64 := by
  by_cases h0 : l = []
  · subst h0
    exact ⟨Nat.zero_le _, fun v hv => by cases hv⟩
  · have h1 := h h0
    exact ⟨(leaf_ok h1).1, fun v hv => vcheck_len (vercheck_ok (lgo_vers l none (leaf_ok h1).2.1 v hv)).2.1⟩
theorem ok_fit : ∀ {t : T}, Ok t → sizeT t ≤ 1000000 → Fit t
  | .mk leaf kids, h, hs => by
    obtain ⟨h1, _, h3⟩ := h
    have a := leaf_fit h1
    have b := kids_size kids h3
    have c := sizeT_n0 (.mk leaf kids)
    refine ⟨Nat.le_trans a.1 (by decide), fun v hv => Nat.le_trans (a.2 v hv) (by decide), ?_, fun x hx => Nat.le_trans (name_len (kids_names kids h3 x hx)) (by decide), Nat.le_trans hs (by decide)⟩
    show kids.length ≤ _
    change _ = _ + sizeL kids at c
    omega
theorem setE_len (ps : List Bs) (l : List Ver) : ∀ E : List PE, (setE E ps l).length ≤ E.length + 1
  | [] => by rw [setE]; split <;> simp
  | (q, m) :: r => by
    have ih := setE_len ps l r
    rw [setE]
    repeat' split
    all_goals simp
    all_goals omega
end Sp
/-- A leaf, names and kids, in memory. -/
structure PartsAt (w : World) (t : Sp.T) (A B C : Option Addr) (gs : List Nat) : Prop where
  V : Vers w A t.leaf
  N : Nams w B (t.kids.map (·.1))
  L : gs.length = t.kids.length
  P : Cells w C (ptrsC gs)
  K : ∀ i (h : i < t.kids.length), InnerAt w (gs.getD i 0) (t.kids[i]).2
theorem PartsAt.ext {w w' : World} (e : Ext w w') {t : Sp.T} {A B C : Option Addr} {gs : List Nat} (h : PartsAt w t A B C gs) : PartsAt w' t A B C gs := ⟨h.V.ext e, h.N.ext e, h.L, h.P.ext e, fun i hi => (h.K i hi).ext e⟩
theorem PreAt.parts {w : World} {g : Nat} {t : Sp.T} {A B C : Option Addr} {c c' c'' : Nat} {gs : List Nat} {arr : Array Value} (h : PreAt w g t A B C c c' c'' gs arr) : PartsAt w t A B C gs := ⟨h.V, h.N, h.L, h.P, h.K⟩
theorem PartsAt.nil (w : World) : PartsAt w .nil none none none [] := ⟨⟨[], rfl, Cells.nil _ _, fun x h => by cases h⟩, Cells.nil _ _, rfl, Cells.nil _ _, fun i h => by cases h⟩
set_option maxRecDepth 100000 in
set_option maxHeartbeats 4000000 in
theorem kept_calls (t : Sp.T) (A B C : Option Addr) (c c' c'' : Nat) (gs : List Nat) (w : World) (h : PartsAt w t A B C gs) (hf : Sp.Fit t) (K : KeysAt w 2) :
    Calls Tryz.prog 64 #[.slice A t.leaf.length c, .slice B t.kids.length c', .slice C t.kids.length c''] w fun e w' => ∃ v, e = .returned v ∧ OptAt w' v (Sp.kept t.leaf t.kids) ∧ Ext w w' := by
  have MC := Lib.hid (made_calls t A B C c c' c'' gs w h.V h.N h.L h.P h.K hf.1 hf.2.1 hf.2.2.1 hf.2.2.2.1 hf.2.2.2.2 K)
  have et : Sp.T.mk t.leaf t.kids = t := by cases t; rfl
  clear h hf K
  go_enter Tryz.func64, Tryz.ntmps64
  by_cases h1 : t.leaf.length = 0
  · by_cases h2 : t.kids.length = 0
    · have hk : Sp.kept t.leaf t.kids = none := if_pos ⟨List.eq_nil_of_length_eq_zero h1, List.eq_nil_of_length_eq_zero h2⟩
      have HK := Lib.hid hk
      clear hk et MC
      go_wp2
      go_ret
      exact ⟨_, rfl, .inl ⟨HK.out, rfl⟩, Ext.refl _⟩
    · have hk : Sp.kept t.leaf t.kids = some t := by rw [Sp.kept, if_neg (fun h => h2 (by rw [h.2]; rfl)), et]
      have HK := Lib.hid hk
      have e2 : ((t.kids.length : Int) == 0) = false := by rw [beq_eq_false_iff_ne]; omega
      rw [h1] at MC
      clear hk et
      go_wp2_with fail
      refine MC.out.mono ?_
      rintro e w1 ⟨g, rfl, hi, hb⟩
      go_wp2
      go_ret
      exact ⟨_, rfl, .inr ⟨g, t, HK.out, rfl, hi⟩, hb⟩
  · have hk : Sp.kept t.leaf t.kids = some t := by rw [Sp.kept, if_neg (fun h => h1 (by rw [h.1]; rfl)), et]
    have HK := Lib.hid hk
    have e2 : ((t.leaf.length : Int) == 0) = false := by rw [beq_eq_false_iff_ne]; omega
    clear hk et
    go_wp2_with fail
    refine MC.out.mono ?_
    rintro e w1 ⟨g, rfl, hi, hb⟩
    go_wp2
    go_ret
    exact ⟨_, rfl, .inr ⟨g, t, HK.out, rfl, hi⟩, hb⟩
/-- A tree: a pointer to its top, or none. -/
def TreeAt (w : World) (v : Value) (o : Option Sp.T) : Prop := (o = none ∧ v = .pointer none) ∨ ∃ g p, v = .pointer (some ⟨g, 0, none⟩) ∧ isBlk w g 59 #[p] ∧ OptAt w p o
theorem TreeAt.ext {w w' : World} (e : Ext w w') {v : Value} {o : Option Sp.T} (h : TreeAt w v o) : TreeAt w' v o := by
  rcases h with h | ⟨g, p, h1, h2, h3⟩
  · exact .inl h
  · exact .inr ⟨g, p, h1, h2.below e, h3.ext e⟩
set_option maxRecDepth 100000 in
set_option maxHeartbeats 4000000 in
theorem root_calls (o : Option Sp.T) (v : Value) (w : World) (h : TreeAt w v o) (K : KeysAt w 2) :
    Calls Tryz.prog 25 #[v] w fun e w' => ∃ g, e = .returned (.pointer (some ⟨g, 0, none⟩)) ∧ InnerAt w' g (o.getD .nil) ∧ Ext w w' := by
  have p0 := PartsAt.nil w
  have MC := Lib.hid (show Calls Tryz.prog 47 #[.slice none 0 0, .slice none 0 0, .slice none 0 0] w fun e w' => ∃ g, e = .returned (.pointer (some ⟨g, 0, none⟩)) ∧ InnerAt w' g .nil ∧ Ext w w' from
    made_calls .nil none none none 0 0 0 [] w p0.V p0.N p0.L p0.P p0.K (by decide) (fun v h => by cases h) (by decide) (fun v h => by cases h) (by decide) K)
  clear p0 K
  rcases h with ⟨rfl, rfl⟩ | ⟨g, p, rfl, hx, ⟨rfl, rfl⟩ | ⟨g1, t, rfl, rfl, hi⟩⟩
  · go_enter Tryz.func25, Tryz.ntmps25
    go_wp2_with fail
    refine MC.out.mono ?_
    rintro e w1 ⟨g, rfl, hi, hb⟩
    go_wp2
    go_ret
    exact ⟨g, rfl, hi, hb⟩
  · have f0 := (hx.cell 0).trans rfl
    go_enter Tryz.func25, Tryz.ntmps25
    go_wp2_with fail
    refine MC.out.mono ?_
    rintro e w1 ⟨g, rfl, hi, hb⟩
    go_wp2
    go_ret
    exact ⟨g, rfl, hi, hb⟩
  · have f0 := (hx.cell 0).trans rfl
    clear MC
    go_enter Tryz.func25, Tryz.ntmps25
    go_wp2
    go_ret
    exact ⟨g1, rfl, hi, Ext.refl _⟩
end Go.Proofs.YtmlkachfahabnaaGreatDoor
