/- What the document finds at a directory of its list, and what the tree has there: plain. Walks: what stands at a directory, if it has something; what stands at the root. Walks: slices.Insert of one. -/
import Derived.Test.YtmlfnidckfeebaaGreatDoorQQ013
namespace Go.Proofs.YtmlfnidckfeebaaGreatDoor
open Go.RowKit
namespace Sp
def stripP : List Bs → List Bs → Option (List Bs)
  | [], q => some q
  | _ :: _, [] => none
  | n :: d, m :: q => if m = n then stripP d q else none
def subs : List PE → List Bs → List PE
  | E, [] => E
  | E, n :: d => subs (sub1 E n) d
theorem subs_nil : ∀ d, subs [] d = []
  | [] => rfl
  | _ :: d => subs_nil d
theorem subs_strip : ∀ (d : List Bs) (E : List PE), subs E d = E.filterMap fun e => (stripP d e.1).map fun q => (q, e.2)
  | [], E => by simp [subs, stripP]
  | n :: d, E => by
    rw [subs, subs_strip d, sub1, List.filterMap_filterMap]
    congr 1
    funext e
    rcases e with ⟨q, l⟩
    cases q with
    | nil => rfl
    | cons m q =>
      by_cases h : m = n <;> simp [stripP, h]
theorem stripP_nil : ∀ (d q : List Bs), stripP d q = some [] ↔ q = d
  | [], q => by simp [stripP]
  | n :: d, [] => by simp [stripP]
  | n :: d, m :: q => by
    by_cases h : m = n
    · simp [stripP, h, stripP_nil d q]
    · simp [stripP, h]
theorem stripP_some : ∀ (d q r : List Bs), stripP d q = some r ↔ q = d ++ r
  | [], q, r => by simp [stripP]
  | n :: d, [], r => by simp [stripP]
  | n :: d, m :: q, r => by
    by_cases h : m = n
    · simp [stripP, h, stripP_some d q r]
    · simp [stripP, h]
def rget : List DE → Bs → List Ver
  | [], _ => []
  | e :: r, p => if e.1 = p then e.2 else rget r p
def under (p d : Bs) : Bool := decide (parts p ≠ []) && (decide (d = []) || decide (parts d ≠ [])) && decide ((parts d).length < (parts p).length) && decide ((parts p).take (parts d).length = parts d)
def rnames (d : Bs) : List Bs → List DE → List Bs
  | out, [] => out
  | out, e :: r => if under e.1 d then (let s := (parts e.1).getD (parts d).length []; rnames d (if out.getLast? = some s then out else out ++ [s]) r) else rnames d out r
def Paths (m : List DE) : Prop := ∀ e ∈ m, check e.1 = 0
theorem check_parts {p : Bs} (h : check p = 0) : parts p = split p ∧ p.length ≤ 51 ∧ (split p).length ≤ 4 ∧ (split p).all name = true := by
  unfold check at h
  split at h
  · omega
  · rename_i h1
    split at h
    · omega
    · rename_i h2
      unfold parts at h2 ⊢
      rw [if_neg h1] at h2 ⊢
      split at h2
      · exact absurd rfl h2
      · rename_i h3
        rw [if_neg h3]
        split at h2
        · rename_i h4
          exact ⟨if_pos h4, by omega, by omega, h4⟩
        · exact absurd rfl h2
theorem check_nil : check [] ≠ 0 := by decide
def Dir (d : Bs) : Prop := d = [] ∨ check d = 0
theorem parts_empty : parts [] = [] := by decide
theorem dir_parts {d : Bs} (h : Dir d) : (decide (d = []) || decide (parts d ≠ [])) = true := by
  rcases h with rfl | h
  · simp
  · have := (check_parts h).1
    have h2 := split_ne d
    rw [← this] at h2
    simp [h2]
theorem get_subs (m : List DE) (hm : Paths m) (d : Bs) (hd : Dir d) : rget m d = get0 (subs (toP m) (parts d)) := by
  induction m with
  | nil => rw [show toP [] = [] from rfl, subs_nil]; rfl
  | cons e r ih =>
    have ih := ih fun x hx => hm x (List.mem_cons_of_mem _ hx)
    have he := check_parts (hm e (List.mem_cons_self ..))
    rw [subs_strip] at ih ⊢
    rw [show toP (e :: r) = (split e.1, e.2) :: toP r from rfl, rget]
    by_cases h : e.1 = d
    · have hs : stripP (parts d) (split e.1) = some [] := by rw [stripP_nil, ← he.1, h]
      rw [if_pos h, List.filterMap_cons, hs]
      rfl
    · rw [if_neg h, ih, List.filterMap_cons]
      cases hs : stripP (parts d) (split e.1) with
      | none => rfl
      | some q =>
        have hq : q ≠ [] := by
          rintro rfl
          rw [stripP_nil] at hs
          rcases hd with rfl | hd
          · rw [parts_empty] at hs; exact split_ne _ hs
          · rw [(check_parts hd).1] at hs; exact h (split_inj hs)
        show _ = get0 ((q, e.2) :: _)
        rw [get0, if_neg hq]
theorem under_strip {p d : Bs} (hp : check p = 0) (hd : Dir d) : under p d = true ↔ ∃ n q, stripP (parts d) (split p) = some (n :: q) := by
  have h1 := (check_parts hp).1
  have h2 := split_ne p
  unfold under
  rw [dir_parts hd, h1]
  simp only [ne_eq, h2, not_false_eq_true, decide_true, Bool.true_and, Bool.and_eq_true, decide_eq_true_eq, stripP_some]
  constructor
  · rintro ⟨h3, h4⟩
    have h5 := List.take_append_drop (parts d).length (split p)
    rw [h4] at h5
    cases hx : (split p).drop (parts d).length with
    | nil => rw [List.drop_eq_nil_iff] at hx; omega
    | cons n q => exact ⟨n, q, by rw [← hx, h5]⟩
  · rintro ⟨n, q, h⟩
    rw [h]
    exact ⟨by simp, by simp⟩
theorem names_subs (d : Bs) (hd : Dir d) : ∀ (m : List DE), Paths m → ∀ out, rnames d out m = namesE out (subs (toP m) (parts d))
  | [], _, out => by rw [show toP [] = [] from rfl, subs_nil]; rfl
  | e :: r, hm, out => by
    have he := hm e (List.mem_cons_self ..)
    have ih := names_subs d hd r fun x hx => hm x (List.mem_cons_of_mem _ hx)
    have hu := under_strip he hd
    simp only [subs_strip] at ih ⊢
    rw [show toP (e :: r) = (split e.1, e.2) :: toP r from rfl, rnames, List.filterMap_cons]
    by_cases h : under e.1 d = true
    · obtain ⟨n, q, hs⟩ := hu.1 h
      rw [if_pos h, hs]
      have hg : (parts e.1).getD (parts d).length [] = n := by
        rw [(check_parts he).1, (stripP_some _ _ _).1 hs]
        simp
      show rnames d (if out.getLast? = some ((parts e.1).getD (parts d).length []) then out else out ++ [(parts e.1).getD (parts d).length []]) r = namesE out ((n :: q, e.2) :: _)
      rw [hg, ih, namesE]
    · rw [if_neg h, ih]
      cases hs : stripP (parts d) (split e.1) with
      | none => rfl
      | some q =>
        cases q with
        | nil => rfl
        | cons n q => exact absurd (hu.2 ⟨n, q, hs⟩) h
def findT : T → List Bs → Option T
  | t, [] => some t
  | t, n :: d => (kid t.kids n).bind fun s => findT s d
theorem findT_subs : ∀ (d : List Bs) (t : T), Ok t → subs (entries t) d = entriesO (findT t d) ∧ ∀ s, findT t d = some s → Ok s
  | [], t, h => ⟨rfl, fun s hs => by cases hs; exact h⟩
  | n :: d, .mk leaf k, h => by
    have h2 := h
    obtain ⟨_, hr, hk⟩ := h2
    rw [subs, sub1_entries n leaf k hr, findT]
    show subs (entriesO (kid k n)) d = entriesO ((kid k n).bind _) ∧ ∀ s, (kid k n).bind _ = some s → _
    cases hs : kid k n with
    | none => exact ⟨subs_nil d, fun s h => by cases h⟩
    | some s => exact findT_subs d s (kid_ok k n s hk hs)
end Sp
end Go.Proofs.YtmlfnidckfeebaaGreatDoor
namespace Go.Proofs.YtmlfnidckfeebaaGreatDoor
open Go.RowKit Go.Shelf
attribute [local go_sem] yUpon
namespace Sp
def Fit (t : T) : Prop := t.leaf.length ≤ 1000000 ∧ (∀ v ∈ t.leaf, v.past.length ≤ 1000000) ∧ t.kids.length ≤ 1000000 ∧ (∀ x ∈ t.kids, x.1.length ≤ 1000000) ∧ sizeT t ≤ 1000000000
theorem kids_size : ∀ (k : List (Bs × T)), OkL k → k.length ≤ sizeL k
  | [], _ => Nat.le_refl _
  | (n, t) :: r, h => by
    have ih := kids_size r h.2.2.2
    have h1 : (entries t).length ≠ 0 := fun e => h.2.1 (List.eq_nil_of_length_eq_zero e)
    rw [← sizeT_len] at h1
    rw [sizeL, List.length_cons]
    omega
theorem name_len {n : Bs} (h : name n = true) : n.length ≤ 12 := by
  unfold name at h
  simp only [Bool.and_eq_true, decide_eq_true_eq] at h
  exact h.1.1.1.2
theorem kids_names : ∀ (k : List (Bs × T)), OkL k → ∀ x ∈ k, name x.1 = true
  | [], _, x, h => by cases h
  | (n, t) :: r, hk, x, h => by
    rcases List.mem_cons.1 h with rfl | h
    · exact hk.1
    · exact kids_names r hk.2.2.2 x h
theorem leaf_fit {l : List Ver} (h : l ≠ [] → leaf l = 0) : l.length ≤ 64 ∧ ∀ v ∈ l, v.past.length ≤ 64 := by
  by_cases h0 : l = []
  · subst h0
    exact ⟨Nat.zero_le _, fun v hv => by cases hv⟩
  · have h1 := h h0
    exact ⟨(leaf_ok h1).1, fun v hv => vcheck_len (vercheck_ok (lgo_vers l none (leaf_ok h1).2.1 v hv)).2.1⟩
theorem ok_fit : ∀ {t : T}, Ok t → sizeT t ≤ 1000000 → Fit t
  | .mk leaf kids, h, hs => by
    obtain ⟨h1, _, h3⟩ := h
    have a := leaf_fit h1
    have b := kids_size kids h3
    have c := sizeT_n0 (.mk leaf kids)
    refine ⟨Nat.le_trans a.1 (by decide), fun v hv => Nat.le_trans (a.2 v hv) (by decide), ?_, fun x hx => Nat.le_trans (name_len (kids_names kids h3 x hx)) (by decide), Nat.le_trans hs (by decide)⟩
    show kids.length ≤ _
    change _ = _ + sizeL kids at c
    omega
theorem setE_len (ps : List Bs) (l : List Ver) : ∀ E : List PE, (setE E ps l).length ≤ E.length + 1
  | [] => by rw [setE]; split <;> simp
  | (q, m) :: r => by
    have ih := setE_len ps l r
    rw [setE]
    repeat' split
    all_goals simp
    all_goals omega
end Sp
structure PartsAt (w : World) (t : Sp.T) (A B C : Option Addr) (gs : List Nat) : Prop where
  V : Vers w A t.leaf
  N : Nams w B (t.kids.map (·.1))
  L : gs.length = t.kids.length
  P : Cells w C (ptrsC gs)
  K : ∀ i (h : i < t.kids.length), InnerAt w (gs.getD i 0) (t.kids[i]).2
theorem PartsAt.ext {w w' : World} (e : Ext w w') {t : Sp.T} {A B C : Option Addr} {gs : List Nat} (h : PartsAt w t A B C gs) : PartsAt w' t A B C gs := ⟨h.V.ext e, h.N.ext e, h.L, h.P.ext e, fun i hi => (h.K i hi).ext e⟩
theorem PreAt.parts {w : World} {g : Nat} {t : Sp.T} {A B C : Option Addr} {c c' c'' : Nat} {gs : List Nat} {arr : Array Value} (h : PreAt w g t A B C c c' c'' gs arr) : PartsAt w t A B C gs := ⟨h.V, h.N, h.L, h.P, h.K⟩
theorem PartsAt.nil (w : World) : PartsAt w .nil none none none [] := ⟨⟨[], rfl, Cells.nil _ _, fun x h => by cases h⟩, Cells.nil _ _, rfl, Cells.nil _ _, fun i h => by cases h⟩
set_option maxRecDepth 100000 in
set_option maxHeartbeats 4000000 in
theorem kept_calls (t : Sp.T) (A B C : Option Addr) (c c' c'' : Nat) (gs : List Nat) (w : World) (h : PartsAt w t A B C gs) (hf : Sp.Fit t) (K : KeysAt w 2) :
    Calls Tryz.prog 171 #[.slice A t.leaf.length c, .slice B t.kids.length c', .slice C t.kids.length c''] w fun e w' => ∃ v, e = .returned v ∧ OptAt w' v (Sp.kept t.leaf t.kids) ∧ Ext w w' := by
  have MC := Lib.hid (made_calls t A B C c c' c'' gs w h.V h.N h.L h.P h.K hf.1 hf.2.1 hf.2.2.1 hf.2.2.2.1 hf.2.2.2.2 K)
  have et : Sp.T.mk t.leaf t.kids = t := by cases t; rfl
  clear h hf K
  go_enter Tryz.func171, Tryz.ntmps171
  by_cases h1 : t.leaf.length = 0
  · by_cases h2 : t.kids.length = 0
    · have hk : Sp.kept t.leaf t.kids = none := if_pos ⟨List.eq_nil_of_length_eq_zero h1, List.eq_nil_of_length_eq_zero h2⟩
      have HK := Lib.hid hk
      clear hk et MC
      go_wp2
      go_ret
      exact ⟨_, rfl, .inl ⟨HK.out, rfl⟩, Ext.refl _⟩
    · have hk : Sp.kept t.leaf t.kids = some t := by rw [Sp.kept, if_neg (fun h => h2 (by rw [h.2]; rfl)), et]
      have HK := Lib.hid hk
      have e2 : ((t.kids.length : Int) == 0) = false := by rw [beq_eq_false_iff_ne]; omega
      rw [h1] at MC
      clear hk et
      go_wp2_with fail
      refine MC.out.mono ?_
      rintro e w1 ⟨g, rfl, hi, hb⟩
      go_wp2
      go_ret
      exact ⟨_, rfl, .inr ⟨g, t, HK.out, rfl, hi⟩, hb⟩
  · have hk : Sp.kept t.leaf t.kids = some t := by rw [Sp.kept, if_neg (fun h => h1 (by rw [h.1]; rfl)), et]
    have HK := Lib.hid hk
    have e2 : ((t.leaf.length : Int) == 0) = false := by rw [beq_eq_false_iff_ne]; omega
    clear hk et
    go_wp2_with fail
    refine MC.out.mono ?_
    rintro e w1 ⟨g, rfl, hi, hb⟩
    go_wp2
    go_ret
    exact ⟨_, rfl, .inr ⟨g, t, HK.out, rfl, hi⟩, hb⟩
def TreeAt (w : World) (v : Value) (o : Option Sp.T) : Prop := (o = none ∧ v = .pointer none) ∨ ∃ g p, v = .pointer (some ⟨g, 0, none⟩) ∧ isBlk w g 153 #[p] ∧ OptAt w p o
theorem TreeAt.ext {w w' : World} (e : Ext w w') {v : Value} {o : Option Sp.T} (h : TreeAt w v o) : TreeAt w' v o := by
  rcases h with h | ⟨g, p, h1, h2, h3⟩
  · exact .inl h
  · exact .inr ⟨g, p, h1, h2.below e, h3.ext e⟩
set_option maxRecDepth 100000 in
set_option maxHeartbeats 4000000 in
theorem root_calls (o : Option Sp.T) (v : Value) (w : World) (h : TreeAt w v o) (K : KeysAt w 2) :
    Calls Tryz.prog 79 #[v] w fun e w' => ∃ g, e = .returned (.pointer (some ⟨g, 0, none⟩)) ∧ InnerAt w' g (o.getD .nil) ∧ Ext w w' := by
  have p0 := PartsAt.nil w
  have MC := Lib.hid (show Calls Tryz.prog 146 #[.slice none 0 0, .slice none 0 0, .slice none 0 0] w fun e w' => ∃ g, e = .returned (.pointer (some ⟨g, 0, none⟩)) ∧ InnerAt w' g .nil ∧ Ext w w' from
    made_calls .nil none none none 0 0 0 [] w p0.V p0.N p0.L p0.P p0.K (by decide) (fun v h => by cases h) (by decide) (fun v h => by cases h) (by decide) K)
  clear p0 K
  rcases h with ⟨rfl, rfl⟩ | ⟨g, p, rfl, hx, ⟨rfl, rfl⟩ | ⟨g1, t, rfl, rfl, hi⟩⟩
  · go_enter Tryz.func79, Tryz.ntmps79
    go_wp2_with fail
    refine MC.out.mono ?_
    rintro e w1 ⟨g, rfl, hi, hb⟩
    go_wp2
    go_ret
    exact ⟨g, rfl, hi, hb⟩
  · have f0 := (hx.cell 0).trans rfl
    go_enter Tryz.func79, Tryz.ntmps79
    go_wp2_with fail
    refine MC.out.mono ?_
    rintro e w1 ⟨g, rfl, hi, hb⟩
    go_wp2
    go_ret
    exact ⟨g, rfl, hi, hb⟩
  · have f0 := (hx.cell 0).trans rfl
    clear MC
    go_enter Tryz.func79, Tryz.ntmps79
    go_wp2
    go_ret
    exact ⟨g1, rfl, hi, Ext.refl _⟩
end Go.Proofs.YtmlfnidckfeebaaGreatDoor
namespace Go.Proofs.YtmlfnidckfeebaaGreatDoor
open Go.RowKit Go.Shelf
attribute [local go_sem] yUpon strOf_toList
set_option maxRecDepth 100000 in
set_option maxHeartbeats 4000000 in
theorem insStr_calls (B gv n i : Nat) (v u : Value) (xs : List Value) (w : World) (h : w.ownsRow B 9 1 v n xs) (hi : i ≤ n) (hn : n ≤ 10000000) (h1 : ∀ u ∈ xs, u.oneCell' = true) (hu : u.oneCell' = true) (hX : isBlk w gv 9 #[u]) (hg : v.ownBlock ≠ some gv) (hB : B ≤ w.heap.size) :
    Calls Tryz.prog 177 #[v, .int .i64 i, .slice (some ⟨gv, 0, none⟩) 1 1] w fun e w' => ∃ v', e = .returned v' ∧ w'.ownsRow B 9 1 v' (n + 1) (xs.take i ++ u :: xs.drop i) ∧ Below B w w' ∧ ∀ k, k < w.heap.size → v.ownBlock ≠ some k → w'.heap[k]? = w.heap[k]? := by
  have CX := Lib.hid (isBlk.one hX)
  have U1 := Lib.hid (show ∀ x ∈ [u], x.oneCell' = true by intro x hx; rw [List.mem_singleton.1 hx]; exact hu)
  have hxl : xs.length = n := by have := own_len h; omega
  have HB := Lib.hid hB
  clear hB
  rcases own_form h with ⟨rfl, rfl, rfl⟩ | ⟨g, cap, rfl, _, _⟩
  · obtain rfl : i = 0 := by omega
    have HO := Lib.hid h
    have tok : True := trivial
    clear h hX hg hu h1
    go_enter Tryz.func177, Tryz.ntmps177
    go_wp2_with (have _t := tok; at_builtin; refine app_cells appStr rfl _ _ rfl B _ 0 [] rfl HO.out (some ⟨gv, 0, none⟩) 1 1 [u] rfl rfl CX.out U1.out (by omega) HB.out ?_; intro v4 w4 hown4 hgr4 hb4; have HO4 := Lib.hid hown4; have HB4 := Lib.hid hb4; have HG4 := Lib.hid hgr4; clear hown4 hgr4 hb4 tok _t)
    go_ret
    exact ⟨_, rfl, HO4.out, HB4.out, fun k hk hne => HG4.out.block k hk (fun e => hne e.symm)⟩
  obtain ⟨hnc, hcm⟩ := own_cap h
  have HO := Lib.hid h
  have XL := Lib.hid hxl
  clear h
  by_cases hin : i = n
  · subst hin
    have tok : True := trivial
    have e1 : xs.take i ++ u :: xs.drop i = xs ++ [u] := by rw [List.take_of_length_le (by omega), List.drop_eq_nil_of_le (by omega)]
    have E1 := Lib.hid e1
    clear hX hg hu h1 e1 hxl
    go_enter Tryz.func177, Tryz.ntmps177
    go_wp2_with (have _t := tok; at_builtin; refine app_cells appStr rfl _ _ rfl B _ i xs rfl HO.out (some ⟨gv, 0, none⟩) 1 1 [u] rfl rfl CX.out U1.out (by omega) HB.out ?_; intro v4 w4 hown4 hgr4 hb4; have HO4 := Lib.hid hown4; have HB4 := Lib.hid hb4; have HG4 := Lib.hid hgr4; clear hown4 hgr4 hb4 tok _t)
    all_goals (
      go_ret
      exact ⟨_, rfl, by rw [E1.out]; exact HO4.out, HB4.out, fun k hk hne => HG4.out.block k hk (fun e => hne e.symm)⟩)
  have hgg : g ≠ gv := fun e => hg (by rw [e]; rfl)
  have hgl : g < w.heap.size ∧ B ≤ g := by
    rcases HO.out.2 with ⟨h0, _⟩ | ⟨g', _, cur, hv, hBg, hh, _⟩
    · cases h0
    · cases hv; exact ⟨isBlk.lt hh, hBg⟩
  have GL := Lib.hid hgl
  have b1 : (i : Int) ≠ (n : Int) := by omega
  have b2 : (i : Int) < (n : Int) := by omega
  have b3 : i < n := by omega
  have b4 : i ≠ n := by omega
  have b5 : (n : Int) ≤ (cap : Int) := by omega
  have b6 : (i : Int) ≤ (cap : Int) := by omega
  have b7 : i ≤ cap := by omega
  have b8 : ¬ cap = i := by omega
  have XX := Lib.hid hX
  have GG := Lib.hid hgg
  have H1 := Lib.hid h1
  have hszE : (appStr).2.2.2.choose.size = 1 := by
    obtain ⟨_, h1, _, h2, _⟩ := (appStr).2.2.2.choose_spec
    exact h2
  have IS := Lib.hid (show (Tryz.prog.info? 9).map (·.size) = some 1 by
    obtain ⟨_, _, _, i0, z, hi0, hz, hsz, _⟩ := appStr
    rw [hi0]; simp [hsz])
  clear hX hg hu h1 hxl hgl hgg hin hszE
  by_cases hc : cap = n
  · subst hc
    obtain ⟨m, hm⟩ : ∃ m, m = cap + 1 := ⟨_, rfl⟩
    obtain ⟨j, hj⟩ : ∃ j, j = i + 1 := ⟨_, rfl⟩
    obtain ⟨q, hq⟩ : ∃ q, q = m - i := ⟨_, rfl⟩
    have q0 : 0 < q := by omega
    have w1 : IntKind.i64.wrap ((cap : Int) + 1) = (m : Int) := by rw [IntKind.wrap_i64]; omega
    have w2 : IntKind.i64.wrap ((m : Int) - (i : Int)) = (q : Int) := by rw [IntKind.wrap_i64]; omega
    have w3 : IntKind.i64.wrap ((i : Int) + 1) = (j : Int) := by rw [IntKind.wrap_i64]; omega
    have c1 : (cap : Int) < (m : Int) := by omega
    have hiq : i + q = m := by omega
    have HIQ := Lib.hid hiq
    have HM := Lib.hid hm
    have HJ := Lib.hid hj
    have d1 : (i : Int) ≤ (m : Int) := by omega
    have d2 : i ≤ m := by omega
    have d3 : (j : Int) ≤ (m : Int) := by omega
    have d4 : j ≤ m := by omega
    have d5 : ¬ m = j := by omega
    have d6 : ¬ m = i := by omega
    have A1 := Lib.hid (show i + (m - i) = m by omega)
    have A2 := Lib.hid (show [u].length = Nat.min 1 (m - i) by rw [List.length_singleton]; show 1 = min 1 (m - i); omega)
    have A3 := Lib.hid (show j + (m - j) = m by omega)
    have A4 := Lib.hid (show i < m by omega)
    have A5 := Lib.hid (show j < m by omega)
    have A6 := Lib.hid (show (xs.drop i).length = Nat.min (cap - i) (m - j) by rw [List.length_drop, XL.out]; show cap - i = min (cap - i) (m - j); omega)
    have A7 := Lib.hid (show m * 16 ≤ 140737488355328 by omega)
    have A8 := Lib.hid (show m * 8 ≤ 140737488355328 by omega)
    have A9 := Lib.hid (show cap < m by omega)
    clear hq hm hj hiq
    have tok : True := trivial
    have tok2 : True := trivial
    have OL := Lib.hid (own_less HO.out i b7)
    go_enter Tryz.func177, Tryz.ntmps177
    go_wp2_with (first
      | (have _t := tok; at_builtin; refine app_grow appStr Tryz.underlying3 rfl _ _ rfl B g i cap (xs.take i) OL.out q m HIQ.out q0 (by go_simp) (by go_simp) A9.out (by first | exact A7.out | exact A8.out) ?_; intro g2 cap2 zs w4 hg2 hzl hown2 hx4; have G2 := Lib.hid hg2; have ZL := Lib.hid hzl; have HO2 := Lib.hid hown2; have X4 := Lib.hid hx4; have hnc2 := Lib.hid (own_cap hown2); have e1 : i ≤ cap2 := Nat.le_trans d2 hnc2.out.1; have e2 : (i : Int) ≤ (cap2 : Int) := Int.ofNat_le.2 e1; have e3 : ¬ cap2 = i := Nat.ne_of_gt (Nat.lt_of_lt_of_le A4.out hnc2.out.1); have e4 : j ≤ cap2 := Nat.le_trans d4 hnc2.out.1; have e5 : (j : Int) ≤ (cap2 : Int) := Int.ofNat_le.2 e4; have e6 : ¬ cap2 = j := Nat.ne_of_gt (Nat.lt_of_lt_of_le A5.out hnc2.out.1); clear hg2 hzl hown2 hx4 tok _t)
      | (have _t := tok2; (with_reducible refine at_cpy rfl ?_); go_loud (refine copy_own rfl _ _ rfl Tryz.underlying32 IS.out w.heap.size g2 m cap2 (xs.take i ++ zs) HO2.out i (m - i) (cap2 - i) (by go_simp) A1.out ⟨gv, 0, none⟩ 1 1 (by go_simp) [u] A2.out (fun j v hj => ((XX.out.below X4.out).read j v hj)) U1.out ?_); intro w5 hown5 on5 hb5; have HO5 := Lib.hid hown5; have ON5 := Lib.hid on5; have X5 := Lib.hid (X4.out.from' hb5); clear hown5 on5 hb5 tok2 _t))

    refine wp_region_det_tail (fun W => W = w5.drew) 8 (by kernel_rfl) (by kernel_rfl) rfl ?_
    simp only [List.take_succ_cons, List.take_zero, List.drop_succ_cons, List.drop_zero]
    repeat (first
      | (refine det_step (fun K hK => ?_)
         apply Exists.intro
         refine ⟨Or.inl ⟨rfl, fun W hS => ?_⟩, ?_⟩
         · skip
           go_simp
           first
           | exact rfl
           | exact ⟨rfl, hS⟩
           | (fail)
         go_simp
         refine hK _ ?_
         clear hK K)
      | (refine det_step (fun K hK => ?_); refine det_no' rfl ?_; go_simp; refine hK _ ?_; clear hK K))
    refine det_nil ?_
    rintro W rfl
    have SRC := Lib.hid (show ∀ k v, (xs.drop i)[k]? = some v → w5.drew.cell? ((⟨g, i, none⟩ : Addr).add k) = some v from fun k v hk => by
      rw [List.getElem?_drop] at hk
      rw [show (⟨g, i, none⟩ : Addr).add k = ⟨g, i + k, none⟩ from by unfold Addr.add; split <;> simp_all]
      exact X5.out.cell (own_isBlk HO.out (i + k) v hk).1)
    have H1D := Lib.hid (show ∀ v ∈ xs.drop i, v.oneCell' = true from fun v hv => H1.out v (List.mem_of_mem_drop hv))
    have W5R := Lib.hid (owned_drew HO5.out)
    clear HO5
    go_wp2_with ((with_reducible refine at_cpy rfl ?_); go_loud (refine copy_own rfl _ _ rfl Tryz.underlying32 IS.out w.heap.size g2 m cap2 _ W5R.out j (m - j) (cap2 - j) (by go_simp) A3.out ⟨g, i, none⟩ (cap - i) (cap - i) (by go_simp) (xs.drop i) A6.out SRC.out H1D.out ?_); intro w6 hown6 on6 hb6; have HO6 := Lib.hid hown6; have X6 := Lib.hid (Below.trans X5.out.drew hb6); clear hown6 on6 hb6 SRC)
    go_ret
    have fin := HO6.out
    rw [HJ.out, ins_grow xs zs u i (by have := XL.out; omega) (by have := XL.out; have := ZL.out; have := HIQ.out; have := HM.out; omega), HM.out] at fin
    rw [HM.out]
    exact ⟨_, rfl, own_lower fin HB.out, below_lower X6.out HB.out, fun k hk _ => X6.out.block k hk⟩
  · obtain ⟨y, hy⟩ := own_more HO.out (by omega)
    obtain ⟨m, hm⟩ : ∃ m, m = n + 1 := ⟨_, rfl⟩
    obtain ⟨j, hj⟩ : ∃ j, j = i + 1 := ⟨_, rfl⟩
    rw [← hm] at hy
    have HY := Lib.hid hy
    have w1 : IntKind.i64.wrap ((n : Int) + 1) = (m : Int) := by rw [IntKind.wrap_i64]; omega
    have w3 : IntKind.i64.wrap ((i : Int) + 1) = (j : Int) := by rw [IntKind.wrap_i64]; omega
    have c1 : ¬ (cap : Int) < (m : Int) := by omega
    have c2 : (m : Int) ≤ (cap : Int) := by omega
    have c3 : m ≤ cap := by omega
    have HM := Lib.hid hm
    have HJ := Lib.hid hj
    have d1 : (i : Int) ≤ (m : Int) := by omega
    have d2 : i ≤ m := by omega
    have d3 : (j : Int) ≤ (m : Int) := by omega
    have d4 : j ≤ m := by omega
    have d5 : ¬ m = j := by omega
    have d6 : ¬ m = i := by omega
    have d7 : ¬ cap = j := by omega
    have d8 : (j : Int) ≤ (cap : Int) := by omega
    have d9 : j ≤ cap := by omega
    have A1 := Lib.hid (show i + (m - i) = m by omega)
    have A2 := Lib.hid (show [u].length = Nat.min 1 (m - i) by rw [List.length_singleton]; show 1 = min 1 (m - i); omega)
    have A3 := Lib.hid (show j + (m - j) = m by omega)
    have A6 := Lib.hid (show (xs.drop i).length = Nat.min (m - i) (m - j) by rw [List.length_drop, XL.out]; show n - i = min (m - i) (m - j); omega)
    obtain ⟨cur, hcur⟩ : ∃ cur, isBlk w g 9 cur ∧ cur.size = cap := by
      rcases HO.out.2 with ⟨h0, _⟩ | ⟨g', _, cur, hv, hBg, hh, _, _, hs, _⟩
      · cases h0
      · cases hv; exact ⟨cur, hh, by omega⟩
    have hov : ∀ lb cb, (callFunc 237 #[.slice (some ⟨gv, 0, none⟩) 1 1, .slice (some ⟨g, j, none⟩) lb cb]).run Tryz.prog w = .ok (.value (.bool false)) w := fun lb cb => by
      rw [run_callFunc_extern Tryz.func237 (by kernel_rfl) (by kernel_rfl) (by kernel_rfl) (e := Extern.SlicesOverlaps.overlaps #[32, 32] #[4]) (by kernel_rfl),
        Lib.run_overlaps_apart w 32 4 9 Tryz.underlying32 1 (fun W => by
          obtain ⟨_, _, _, i0, z, hi0, hz, hsz, _⟩ := appStr
          simp [sizeOf, typeInfo, hi0, hsz]) ⟨gv, 0, none⟩ ⟨g, j, none⟩ 1 1 lb cb (fun e => GG.out e.symm) 9 9 1 cur.size XX.out.shape hcur.1.shape (by omega) (XX.out.frozen _) (XX.out.frozen _)]
      rfl
    clear hm hj hy hcur
    go_enter Tryz.func177, Tryz.ntmps177
    go_wp2_with (simp only [hov])
    refine wp_region_det_tail (fun W => W = w.drew) 8 (by kernel_rfl) (by kernel_rfl) rfl ?_
    simp only [List.take_succ_cons, List.take_zero, List.drop_succ_cons, List.drop_zero]
    repeat (first
      | (refine det_step (fun K hK => ?_)
         apply Exists.intro
         refine ⟨Or.inl ⟨rfl, fun W hS => ?_⟩, ?_⟩
         · skip
           go_simp
           first
           | exact rfl
           | exact ⟨rfl, hS⟩
           | (fail)
         go_simp
         refine hK _ ?_
         clear hK K)
      | (refine det_step (fun K hK => ?_); refine det_no' rfl ?_; go_simp; refine hK _ ?_; clear hK K))
    refine det_nil ?_
    rintro W rfl
    have SRC := Lib.hid (show ∀ k v, (xs.drop i)[k]? = some v → w.drew.cell? ((⟨g, i, none⟩ : Addr).add k) = some v from fun k v hk => by
      rw [List.getElem?_drop] at hk
      rw [show (⟨g, i, none⟩ : Addr).add k = ⟨g, i + k, none⟩ from by unfold Addr.add; split <;> simp_all]
      exact (own_isBlk HO.out (i + k) v hk).1)
    have H1D := Lib.hid (show ∀ v ∈ xs.drop i, v.oneCell' = true from fun v hv => H1.out v (List.mem_of_mem_drop hv))
    have YR := Lib.hid (owned_drew HY.out)
    have tok : True := trivial
    have tok2 : True := trivial
    clear hov
    go_wp2_with (first
      | (have _t := tok; (with_reducible refine at_cpy rfl ?_); refine copy_own rfl _ _ rfl Tryz.underlying32 IS.out B g m cap _ YR.out j (m - j) (cap - j) (by go_simp) A3.out ⟨g, i, none⟩ (m - i) (cap - i) (by go_simp) (xs.drop i) A6.out SRC.out H1D.out ?_; intro w6 hown6 on6 hb6; have HO6 := Lib.hid hown6; have X6 := Lib.hid (Below.trans (Below.refl B w).drew hb6); have N6 := Lib.hid ((Only.refl g w).drew.trans on6); clear hown6 on6 hb6 SRC tok _t)
      | (have _t := tok2; (with_reducible refine at_cpy rfl ?_); refine copy_own rfl _ _ rfl Tryz.underlying32 IS.out B g m cap _ HO6.out i (m - i) (cap - i) (by go_simp) A1.out ⟨gv, 0, none⟩ 1 1 (by go_simp) [u] A2.out (fun j v hj => (N6.out.blk XX.out (fun e => GG.out e.symm)).read j v hj) U1.out ?_; intro w7 hown7 on7 hb7; have HO7 := Lib.hid hown7; have X7 := Lib.hid (Below.trans X6.out hb7); have N7 := Lib.hid (N6.out.trans on7); clear hown7 on7 hb7 tok2 _t))
    go_ret
    have fin := HO7.out
    rw [HJ.out, ins_room xs y u i (by have := XL.out; omega), HM.out] at fin
    rw [HM.out]
    exact ⟨_, rfl, fin, X7.out, fun k hk hne => N7.out.block k hk (fun e => hne (by rw [e]; rfl))⟩
set_option maxRecDepth 100000 in
set_option maxHeartbeats 4000000 in
theorem insPtr_calls (B gv n i : Nat) (v u : Value) (xs : List Value) (w : World) (h : w.ownsRow B 123 1 v n xs) (hi : i ≤ n) (hn : n ≤ 10000000) (h1 : ∀ u ∈ xs, u.oneCell' = true) (hu : u.oneCell' = true) (hX : isBlk w gv 123 #[u]) (hg : v.ownBlock ≠ some gv) (hB : B ≤ w.heap.size) :
    Calls Tryz.prog 178 #[v, .int .i64 i, .slice (some ⟨gv, 0, none⟩) 1 1] w fun e w' => ∃ v', e = .returned v' ∧ w'.ownsRow B 123 1 v' (n + 1) (xs.take i ++ u :: xs.drop i) ∧ Below B w w' ∧ ∀ k, k < w.heap.size → v.ownBlock ≠ some k → w'.heap[k]? = w.heap[k]? := by
  have CX := Lib.hid (isBlk.one hX)
  have U1 := Lib.hid (show ∀ x ∈ [u], x.oneCell' = true by intro x hx; rw [List.mem_singleton.1 hx]; exact hu)
  have hxl : xs.length = n := by have := own_len h; omega
  have HB := Lib.hid hB
  clear hB
  rcases own_form h with ⟨rfl, rfl, rfl⟩ | ⟨g, cap, rfl, _, _⟩
  · obtain rfl : i = 0 := by omega
    have HO := Lib.hid h
    have tok : True := trivial
    clear h hX hg hu h1
    go_enter Tryz.func178, Tryz.ntmps178
    go_wp2_with (have _t := tok; at_builtin; refine app_cells appPtr rfl _ _ rfl B _ 0 [] rfl HO.out (some ⟨gv, 0, none⟩) 1 1 [u] rfl rfl CX.out U1.out (by omega) HB.out ?_; intro v4 w4 hown4 hgr4 hb4; have HO4 := Lib.hid hown4; have HB4 := Lib.hid hb4; have HG4 := Lib.hid hgr4; clear hown4 hgr4 hb4 tok _t)
    go_ret
    exact ⟨_, rfl, HO4.out, HB4.out, fun k hk hne => HG4.out.block k hk (fun e => hne e.symm)⟩
  obtain ⟨hnc, hcm⟩ := own_cap h
  have HO := Lib.hid h
  have XL := Lib.hid hxl
  clear h
  by_cases hin : i = n
  · subst hin
    have tok : True := trivial
    have e1 : xs.take i ++ u :: xs.drop i = xs ++ [u] := by rw [List.take_of_length_le (by omega), List.drop_eq_nil_of_le (by omega)]
    have E1 := Lib.hid e1
    clear hX hg hu h1 e1 hxl
    go_enter Tryz.func178, Tryz.ntmps178
    go_wp2_with (have _t := tok; at_builtin; refine app_cells appPtr rfl _ _ rfl B _ i xs rfl HO.out (some ⟨gv, 0, none⟩) 1 1 [u] rfl rfl CX.out U1.out (by omega) HB.out ?_; intro v4 w4 hown4 hgr4 hb4; have HO4 := Lib.hid hown4; have HB4 := Lib.hid hb4; have HG4 := Lib.hid hgr4; clear hown4 hgr4 hb4 tok _t)
    all_goals (
      go_ret
      exact ⟨_, rfl, by rw [E1.out]; exact HO4.out, HB4.out, fun k hk hne => HG4.out.block k hk (fun e => hne e.symm)⟩)
  have hgg : g ≠ gv := fun e => hg (by rw [e]; rfl)
  have hgl : g < w.heap.size ∧ B ≤ g := by
    rcases HO.out.2 with ⟨h0, _⟩ | ⟨g', _, cur, hv, hBg, hh, _⟩
    · cases h0
    · cases hv; exact ⟨isBlk.lt hh, hBg⟩
  have GL := Lib.hid hgl
  have b1 : (i : Int) ≠ (n : Int) := by omega
  have b2 : (i : Int) < (n : Int) := by omega
  have b3 : i < n := by omega
  have b4 : i ≠ n := by omega
  have b5 : (n : Int) ≤ (cap : Int) := by omega
  have b6 : (i : Int) ≤ (cap : Int) := by omega
  have b7 : i ≤ cap := by omega
  have b8 : ¬ cap = i := by omega
  have XX := Lib.hid hX
  have GG := Lib.hid hgg
  have H1 := Lib.hid h1
  have hszE : (appPtr).2.2.2.choose.size = 1 := by
    obtain ⟨_, h1, _, h2, _⟩ := (appPtr).2.2.2.choose_spec
    exact h2
  have IS := Lib.hid (show (Tryz.prog.info? 123).map (·.size) = some 1 by
    obtain ⟨_, _, _, i0, z, hi0, hz, hsz, _⟩ := appPtr
    rw [hi0]; simp [hsz])
  clear hX hg hu h1 hxl hgl hgg hin hszE
  by_cases hc : cap = n
  · subst hc
    obtain ⟨m, hm⟩ : ∃ m, m = cap + 1 := ⟨_, rfl⟩
    obtain ⟨j, hj⟩ : ∃ j, j = i + 1 := ⟨_, rfl⟩
    obtain ⟨q, hq⟩ : ∃ q, q = m - i := ⟨_, rfl⟩
    have q0 : 0 < q := by omega
    have w1 : IntKind.i64.wrap ((cap : Int) + 1) = (m : Int) := by rw [IntKind.wrap_i64]; omega
    have w2 : IntKind.i64.wrap ((m : Int) - (i : Int)) = (q : Int) := by rw [IntKind.wrap_i64]; omega
    have w3 : IntKind.i64.wrap ((i : Int) + 1) = (j : Int) := by rw [IntKind.wrap_i64]; omega
    have c1 : (cap : Int) < (m : Int) := by omega
    have hiq : i + q = m := by omega
    have HIQ := Lib.hid hiq
    have HM := Lib.hid hm
    have HJ := Lib.hid hj
    have d1 : (i : Int) ≤ (m : Int) := by omega
    have d2 : i ≤ m := by omega
    have d3 : (j : Int) ≤ (m : Int) := by omega
    have d4 : j ≤ m := by omega
    have d5 : ¬ m = j := by omega
    have d6 : ¬ m = i := by omega
    have A1 := Lib.hid (show i + (m - i) = m by omega)
    have A2 := Lib.hid (show [u].length = Nat.min 1 (m - i) by rw [List.length_singleton]; show 1 = min 1 (m - i); omega)
    have A3 := Lib.hid (show j + (m - j) = m by omega)
    have A4 := Lib.hid (show i < m by omega)
    have A5 := Lib.hid (show j < m by omega)
    have A6 := Lib.hid (show (xs.drop i).length = Nat.min (cap - i) (m - j) by rw [List.length_drop, XL.out]; show cap - i = min (cap - i) (m - j); omega)
    have A7 := Lib.hid (show m * 16 ≤ 140737488355328 by omega)
    have A8 := Lib.hid (show m * 8 ≤ 140737488355328 by omega)
    have A9 := Lib.hid (show cap < m by omega)
    clear hq hm hj hiq
    have tok : True := trivial
    have tok2 : True := trivial
    have OL := Lib.hid (own_less HO.out i b7)
    go_enter Tryz.func178, Tryz.ntmps178
    go_wp2_with (first
      | (have _t := tok; at_builtin; refine app_grow appPtr Tryz.underlying3 rfl _ _ rfl B g i cap (xs.take i) OL.out q m HIQ.out q0 (by go_simp) (by go_simp) A9.out (by first | exact A7.out | exact A8.out) ?_; intro g2 cap2 zs w4 hg2 hzl hown2 hx4; have G2 := Lib.hid hg2; have ZL := Lib.hid hzl; have HO2 := Lib.hid hown2; have X4 := Lib.hid hx4; have hnc2 := Lib.hid (own_cap hown2); have e1 : i ≤ cap2 := Nat.le_trans d2 hnc2.out.1; have e2 : (i : Int) ≤ (cap2 : Int) := Int.ofNat_le.2 e1; have e3 : ¬ cap2 = i := Nat.ne_of_gt (Nat.lt_of_lt_of_le A4.out hnc2.out.1); have e4 : j ≤ cap2 := Nat.le_trans d4 hnc2.out.1; have e5 : (j : Int) ≤ (cap2 : Int) := Int.ofNat_le.2 e4; have e6 : ¬ cap2 = j := Nat.ne_of_gt (Nat.lt_of_lt_of_le A5.out hnc2.out.1); clear hg2 hzl hown2 hx4 tok _t)
      | (have _t := tok2; (with_reducible refine at_cpy rfl ?_); go_loud (refine copy_own rfl _ _ rfl Tryz.underlying120 IS.out w.heap.size g2 m cap2 (xs.take i ++ zs) HO2.out i (m - i) (cap2 - i) (by go_simp) A1.out ⟨gv, 0, none⟩ 1 1 (by go_simp) [u] A2.out (fun j v hj => ((XX.out.below X4.out).read j v hj)) U1.out ?_); intro w5 hown5 on5 hb5; have HO5 := Lib.hid hown5; have ON5 := Lib.hid on5; have X5 := Lib.hid (X4.out.from' hb5); clear hown5 on5 hb5 tok2 _t))

    refine wp_region_det_tail (fun W => W = w5.drew) 8 (by kernel_rfl) (by kernel_rfl) rfl ?_
    simp only [List.take_succ_cons, List.take_zero, List.drop_succ_cons, List.drop_zero]
    repeat (first
      | (refine det_step (fun K hK => ?_)
         apply Exists.intro
         refine ⟨Or.inl ⟨rfl, fun W hS => ?_⟩, ?_⟩
         · skip
           go_simp
           first
           | exact rfl
           | exact ⟨rfl, hS⟩
           | (fail)
         go_simp
         refine hK _ ?_
         clear hK K)
      | (refine det_step (fun K hK => ?_); refine det_no' rfl ?_; go_simp; refine hK _ ?_; clear hK K))
    refine det_nil ?_
    rintro W rfl
    have SRC := Lib.hid (show ∀ k v, (xs.drop i)[k]? = some v → w5.drew.cell? ((⟨g, i, none⟩ : Addr).add k) = some v from fun k v hk => by
      rw [List.getElem?_drop] at hk
      rw [show (⟨g, i, none⟩ : Addr).add k = ⟨g, i + k, none⟩ from by unfold Addr.add; split <;> simp_all]
      exact X5.out.cell (own_isBlk HO.out (i + k) v hk).1)
    have H1D := Lib.hid (show ∀ v ∈ xs.drop i, v.oneCell' = true from fun v hv => H1.out v (List.mem_of_mem_drop hv))
    have W5R := Lib.hid (owned_drew HO5.out)
    clear HO5
    go_wp2_with ((with_reducible refine at_cpy rfl ?_); go_loud (refine copy_own rfl _ _ rfl Tryz.underlying120 IS.out w.heap.size g2 m cap2 _ W5R.out j (m - j) (cap2 - j) (by go_simp) A3.out ⟨g, i, none⟩ (cap - i) (cap - i) (by go_simp) (xs.drop i) A6.out SRC.out H1D.out ?_); intro w6 hown6 on6 hb6; have HO6 := Lib.hid hown6; have X6 := Lib.hid (Below.trans X5.out.drew hb6); clear hown6 on6 hb6 SRC)
    go_ret
    have fin := HO6.out
    rw [HJ.out, ins_grow xs zs u i (by have := XL.out; omega) (by have := XL.out; have := ZL.out; have := HIQ.out; have := HM.out; omega), HM.out] at fin
    rw [HM.out]
    exact ⟨_, rfl, own_lower fin HB.out, below_lower X6.out HB.out, fun k hk _ => X6.out.block k hk⟩
  · obtain ⟨y, hy⟩ := own_more HO.out (by omega)
    obtain ⟨m, hm⟩ : ∃ m, m = n + 1 := ⟨_, rfl⟩
    obtain ⟨j, hj⟩ : ∃ j, j = i + 1 := ⟨_, rfl⟩
    rw [← hm] at hy
    have HY := Lib.hid hy
    have w1 : IntKind.i64.wrap ((n : Int) + 1) = (m : Int) := by rw [IntKind.wrap_i64]; omega
    have w3 : IntKind.i64.wrap ((i : Int) + 1) = (j : Int) := by rw [IntKind.wrap_i64]; omega
    have c1 : ¬ (cap : Int) < (m : Int) := by omega
    have c2 : (m : Int) ≤ (cap : Int) := by omega
    have c3 : m ≤ cap := by omega
    have HM := Lib.hid hm
    have HJ := Lib.hid hj
    have d1 : (i : Int) ≤ (m : Int) := by omega
    have d2 : i ≤ m := by omega
    have d3 : (j : Int) ≤ (m : Int) := by omega
    have d4 : j ≤ m := by omega
    have d5 : ¬ m = j := by omega
    have d6 : ¬ m = i := by omega
    have d7 : ¬ cap = j := by omega
    have d8 : (j : Int) ≤ (cap : Int) := by omega
    have d9 : j ≤ cap := by omega
    have A1 := Lib.hid (show i + (m - i) = m by omega)
    have A2 := Lib.hid (show [u].length = Nat.min 1 (m - i) by rw [List.length_singleton]; show 1 = min 1 (m - i); omega)
    have A3 := Lib.hid (show j + (m - j) = m by omega)
    have A6 := Lib.hid (show (xs.drop i).length = Nat.min (m - i) (m - j) by rw [List.length_drop, XL.out]; show n - i = min (m - i) (m - j); omega)
    obtain ⟨cur, hcur⟩ : ∃ cur, isBlk w g 123 cur ∧ cur.size = cap := by
      rcases HO.out.2 with ⟨h0, _⟩ | ⟨g', _, cur, hv, hBg, hh, _, _, hs, _⟩
      · cases h0
      · cases hv; exact ⟨cur, hh, by omega⟩
    have hov : ∀ lb cb, (callFunc 239 #[.slice (some ⟨gv, 0, none⟩) 1 1, .slice (some ⟨g, j, none⟩) lb cb]).run Tryz.prog w = .ok (.value (.bool false)) w := fun lb cb => by
      rw [run_callFunc_extern Tryz.func239 (by kernel_rfl) (by kernel_rfl) (by kernel_rfl) (e := Extern.SlicesOverlaps.overlaps #[120, 120] #[4]) (by kernel_rfl),
        Lib.run_overlaps_apart w 120 4 123 Tryz.underlying120 1 (fun W => by
          obtain ⟨_, _, _, i0, z, hi0, hz, hsz, _⟩ := appPtr
          simp [sizeOf, typeInfo, hi0, hsz]) ⟨gv, 0, none⟩ ⟨g, j, none⟩ 1 1 lb cb (fun e => GG.out e.symm) 123 123 1 cur.size XX.out.shape hcur.1.shape (by omega) (XX.out.frozen _) (XX.out.frozen _)]
      rfl
    clear hm hj hy hcur
    go_enter Tryz.func178, Tryz.ntmps178
    go_wp2_with (simp only [hov])
    refine wp_region_det_tail (fun W => W = w.drew) 8 (by kernel_rfl) (by kernel_rfl) rfl ?_
    simp only [List.take_succ_cons, List.take_zero, List.drop_succ_cons, List.drop_zero]
    repeat (first
      | (refine det_step (fun K hK => ?_)
         apply Exists.intro
         refine ⟨Or.inl ⟨rfl, fun W hS => ?_⟩, ?_⟩
         · skip
           go_simp
           first
           | exact rfl
           | exact ⟨rfl, hS⟩
           | (fail)
         go_simp
         refine hK _ ?_
         clear hK K)
      | (refine det_step (fun K hK => ?_); refine det_no' rfl ?_; go_simp; refine hK _ ?_; clear hK K))
    refine det_nil ?_
    rintro W rfl
    have SRC := Lib.hid (show ∀ k v, (xs.drop i)[k]? = some v → w.drew.cell? ((⟨g, i, none⟩ : Addr).add k) = some v from fun k v hk => by
      rw [List.getElem?_drop] at hk
      rw [show (⟨g, i, none⟩ : Addr).add k = ⟨g, i + k, none⟩ from by unfold Addr.add; split <;> simp_all]
      exact (own_isBlk HO.out (i + k) v hk).1)
    have H1D := Lib.hid (show ∀ v ∈ xs.drop i, v.oneCell' = true from fun v hv => H1.out v (List.mem_of_mem_drop hv))
    have YR := Lib.hid (owned_drew HY.out)
    have tok : True := trivial
    have tok2 : True := trivial
    clear hov
    go_wp2_with (first
      | (have _t := tok; (with_reducible refine at_cpy rfl ?_); refine copy_own rfl _ _ rfl Tryz.underlying120 IS.out B g m cap _ YR.out j (m - j) (cap - j) (by go_simp) A3.out ⟨g, i, none⟩ (m - i) (cap - i) (by go_simp) (xs.drop i) A6.out SRC.out H1D.out ?_; intro w6 hown6 on6 hb6; have HO6 := Lib.hid hown6; have X6 := Lib.hid (Below.trans (Below.refl B w).drew hb6); have N6 := Lib.hid ((Only.refl g w).drew.trans on6); clear hown6 on6 hb6 SRC tok _t)
      | (have _t := tok2; (with_reducible refine at_cpy rfl ?_); refine copy_own rfl _ _ rfl Tryz.underlying120 IS.out B g m cap _ HO6.out i (m - i) (cap - i) (by go_simp) A1.out ⟨gv, 0, none⟩ 1 1 (by go_simp) [u] A2.out (fun j v hj => (N6.out.blk XX.out (fun e => GG.out e.symm)).read j v hj) U1.out ?_; intro w7 hown7 on7 hb7; have HO7 := Lib.hid hown7; have X7 := Lib.hid (Below.trans X6.out hb7); have N7 := Lib.hid (N6.out.trans on7); clear hown7 on7 hb7 tok2 _t))
    go_ret
    have fin := HO7.out
    rw [HJ.out, ins_room xs y u i (by have := XL.out; omega), HM.out] at fin
    rw [HM.out]
    exact ⟨_, rfl, fin, X7.out, fun k hk hne => N7.out.block k hk (fun e => hne (by rw [e]; rfl))⟩
end Go.Proofs.YtmlfnidckfeebaaGreatDoor
