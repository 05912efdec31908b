/- What a reader takes: plain. Numbers as bytes are read as they were written, and written as they were read: plain. Nodes, plain: the bytes of a node tell the node. Trees, plain: trees of one root's digest are the same, or two unlike nodes of them have one digest; a tree's entries tell the tree. Deltas, plain: what is opened is needed; what differs is told; the order. What users see change, plain. Trees, plain: what TreeApart says. Walks: the bytes of all nodes of a tree, by the document. -/
import Derived.Test.YtmlfnidckfeebaaGreatDoorRF022
namespace Go.Proofs.YtmlfnidckfeebaaGreatDoor
namespace Sp
abbrev R := List UInt8 × Int
theorem cput_form (n : Nat) : ∃ p b, cput n = p ++ [b] ∧ (∀ x ∈ p, 128 ≤ x.toNat) ∧ b.toNat < 128 ∧ num (cput n) = n ∧ (p ≠ [] → b ≠ 0) ∧ (b = 0 → n = 0 ∨ p ≠ []) := by
  induction n using Nat.strongRecOn with
  | _ n ih =>
    by_cases h : n < 128
    · refine ⟨[], UInt8.ofNat n, ?_, by simp, ?_, ?_, by simp, ?_⟩
      · rw [cput, if_pos h]; rfl
      · simp; omega
      · rw [cput, if_pos h]; simp [num]; omega
      · intro e
        have := congrArg UInt8.toNat e
        simp at this
        left; omega
    · obtain ⟨p, b, h1, h2, h3, h4, h5, h6⟩ := ih (n / 128) (by omega)
      have hc : cput n = UInt8.ofNat (n % 128 + 128) :: cput (n / 128) := by rw [cput, if_neg h]
      refine ⟨UInt8.ofNat (n % 128 + 128) :: p, b, by rw [hc, h1]; rfl, ?_, h3, ?_, ?_, fun _ => .inr (by simp)⟩
      · intro x hx
        rcases List.mem_cons.1 hx with rfl | hx
        · simp; omega
        · exact h2 x hx
      · rw [hc, num, h4]; simp; omega
      · intro _ e
        rcases h6 e with h0 | h0
        · omega
        · exact h5 h0 e
theorem cend_app : ∀ (p : List UInt8) (pre : List UInt8) (b : UInt8) (r : List UInt8) (f : Nat), (∀ x ∈ p, 128 ≤ x.toNat) → b.toNat < 128 → p.length < f → cend (pre ++ (p ++ b :: r)) f pre.length = some (pre.length + p.length)
  | [], pre, b, r, f, _, hb, hf => by
    obtain ⟨f, rfl⟩ : ∃ g, f = g + 1 := ⟨f - 1, by simp at hf; omega⟩
    rw [cend, List.getElem?_append_right (Nat.le_refl _), Nat.sub_self]
    simp [hb]
  | c :: p, pre, b, r, f, hp, hb, hf => by
    obtain ⟨f, rfl⟩ : ∃ g, f = g + 1 := ⟨f - 1, by simp at hf; omega⟩
    have hc : ¬ c.toNat < 128 := by have := hp c (by simp); omega
    have ih := cend_app p (pre ++ [c]) b r f (fun x hx => hp x (by simp [hx])) hb (by simp at hf; omega)
    rw [cend, List.getElem?_append_right (Nat.le_refl _), Nat.sub_self]
    simp only [List.cons_append, List.getElem?_cons_zero, hc, if_false]
    simp only [List.length_append, List.length_cons, List.length_nil, List.append_assoc, List.singleton_append] at ih
    simp only [List.length_cons]
    rw [Nat.zero_add] at ih
    rw [ih]
    congr 1
    omega
theorem take_cput (n : Nat) (r : List UInt8) (h : n ≤ 1073741824) : take (cput n ++ r) = (n, (cput n).length, 0) := by
  obtain ⟨p, b, h1, h2, h3, h4, h5, _⟩ := cput_form n
  have hlen := cput_len n h
  rw [h1, List.length_append] at hlen
  have hpl : p.length < 5 := by simp at hlen; omega
  have he := cend_app p [] b r 5 h2 h3 hpl
  simp only [List.nil_append, List.length_nil, Nat.zero_add] at he
  have hl : cput n ++ r = p ++ b :: r := by rw [h1]; simp
  have htk : (p ++ b :: r).take (p.length + 1) = cput n := by
    rw [h1, List.take_append, List.take_of_length_le (by omega)]; simp
  unfold take
  rw [hl, he]
  simp only []
  rw [if_neg, htk, h4, if_neg (by omega), h1]
  · simp
  · rintro ⟨e, h0⟩
    rw [List.getElem?_append_right (Nat.le_refl _), Nat.sub_self] at e
    simp at e
    exact h5 (by intro h; rw [h] at h0; simp at h0) e
theorem put_nat (n : Nat) (h : n ≤ 1073741824) : put (n : Int) = cput n := by unfold put; rw [if_pos (by omega)]; simp
structure Tells {α : Type} (f : α → W → W) (enc : α → Bs) (pre ok : α → Prop) : Prop where
  out : ∀ a x, pre a → (f a x).2 = 0 → x.2 = 0 ∧ (f a x).1 = x.1 ++ enc a ∧ ok a
  inj : ∀ a b r s, ok a → ok b → enc a ++ r = enc b ++ s → a = b ∧ r = s
theorem wput_out {b : Bool} {s : Bs} {x : W} (h : (wput b s x).2 = 0) : x.2 = 0 ∧ b = true ∧ (wput b s x).1 = x.1 ++ s := by
  unfold wput at h ⊢
  by_cases hx : x.2 = 0
  · rw [if_neg (by simpa using hx)] at h ⊢
    cases b with
    | true => exact ⟨hx, rfl, rfl⟩
    | false => exact absurd (show (2 : Int) = 0 from h) (by decide)
  · rw [if_pos hx] at h; exact absurd h hx
theorem tells_num : Tells wnum put (fun _ => True) (fun n => 0 ≤ n ∧ n ≤ 1073741824) where
  out n x _ h := by
    obtain ⟨h1, h2, h3⟩ := wput_out h
    exact ⟨h1, h3, by simpa using h2⟩
  inj a b r s ha hb h := by
    obtain ⟨n, rfl⟩ := Int.eq_ofNat_of_zero_le ha.1
    obtain ⟨m, rfl⟩ := Int.eq_ofNat_of_zero_le hb.1
    rw [put_nat n (by omega), put_nat m (by omega)] at h
    have h1 := take_cput n r (by omega)
    have h2 := take_cput m s (by omega)
    rw [h] at h1
    have h4 : n = m := congrArg Prod.fst (h1.symm.trans h2)
    subst h4
    exact ⟨rfl, List.append_cancel_left h⟩
theorem tells_text : Tells wtext (fun s => put s.length ++ s) (fun _ => True) (fun s => s.length ≤ 65536) where
  out s x _ h := by
    obtain ⟨h1, h2, h3⟩ := wput_out h
    exact ⟨h1, h3, by simpa using h2⟩
  inj a b r s ha hb h := by
    rw [List.append_assoc, List.append_assoc] at h
    obtain ⟨h1, h2⟩ := tells_num.inj _ _ _ _ ⟨by omega, by omega⟩ ⟨by omega, by omega⟩ h
    exact List.append_inj h2 (by omega)
theorem tells_flag : Tells wflag (fun b => [if b then 1 else 0]) (fun _ => True) (fun _ => True) where
  out s x _ h := by
    obtain ⟨h1, h2, h3⟩ := wput_out h
    exact ⟨h1, h3, trivial⟩
  inj a b r s ha hb h := by
    rw [List.singleton_append, List.singleton_append, List.cons.injEq] at h
    refine ⟨?_, h.2⟩
    have h1 := h.1
    cases a <;> cases b <;> first | rfl | exact absurd h1 (by decide)
theorem tells_digest : Tells wdigest (fun d => d) (fun d => d.length = 32) (fun d => d.length = 32) where
  out s x p h := by
    obtain ⟨h1, h2, h3⟩ := wput_out h
    exact ⟨h1, h3, p⟩
  inj a b r s ha hb h := List.append_inj h (by rw [ha, hb])
theorem Tells.seq {α β : Type} {f : α → W → W} {f' : β → W → W} {enc : α → Bs} {enc' : β → Bs} {pre ok : α → Prop} {pre' ok' : β → Prop} (h : Tells f enc pre ok) (h' : Tells f' enc' pre' ok') :
    Tells (fun (a : α × β) x => f' a.2 (f a.1 x)) (fun a => enc a.1 ++ enc' a.2) (fun a => pre a.1 ∧ pre' a.2) (fun a => ok a.1 ∧ ok' a.2) where
  out a x p e := by
    obtain ⟨h1, h2, h3⟩ := h'.out _ _ p.2 e
    obtain ⟨g1, g2, g3⟩ := h.out _ _ p.1 h1
    exact ⟨g1, by rw [h2, g2, List.append_assoc], g3, h3⟩
  inj a b r s ha hb e := by
    rw [List.append_assoc, List.append_assoc] at e
    obtain ⟨h1, h2⟩ := h.inj _ _ _ _ ha.1 hb.1 e
    obtain ⟨h3, h4⟩ := h'.inj _ _ _ _ ha.2 hb.2 h2
    exact ⟨Prod.ext h1 h3, h4⟩
theorem Tells.map {α β : Type} {f : α → W → W} {enc : α → Bs} {pre ok : α → Prop} (h : Tells f enc pre ok) (g : β → α) (hg : ∀ b c, g b = g c → b = c) : Tells (fun b => f (g b)) (fun b => enc (g b)) (fun b => pre (g b)) (fun b => ok (g b)) where
  out a x p e := h.out _ _ p e
  inj a b r s ha hb e := by
    obtain ⟨h1, h2⟩ := h.inj _ _ _ _ ha hb e
    exact ⟨hg _ _ h1, h2⟩
theorem wfail_no {e : Int} (he : e ≠ 0) (x : W) : (wfail e x).2 ≠ 0 := by
  unfold wfail
  by_cases h : x.2 = 0
  · rw [if_pos h]; exact he
  · rw [if_neg h]; exact h
theorem Tells.ifs {α : Type} {f : α → W → W} {enc : α → Bs} {pre ok : α → Prop} (h : Tells f enc pre ok) (c : α → Int) : Tells (fun a x => if c a ≠ 0 then wfail (c a) x else f a x) enc pre ok where
  out a x p e := by
    by_cases hc : c a = 0
    · have : ¬ c a ≠ 0 := fun h => h hc
      simp only [if_neg this] at e ⊢
      exact h.out _ _ p e
    · simp only [if_pos hc] at e
      exact absurd e (wfail_no hc x)
  inj := h.inj
theorem Tells.fold {α : Type} {f : α → W → W} {enc : α → Bs} {pre ok : α → Prop} (h : Tells f enc pre ok) : ∀ (l : List α) (x : W), (∀ a ∈ l, pre a) → (l.foldl (fun x a => f a x) x).2 = 0 → x.2 = 0 ∧ (l.foldl (fun x a => f a x) x).1 = x.1 ++ l.flatMap enc ∧ ∀ a ∈ l, ok a
  | [], x, _, e => ⟨e, by simp, fun _ h => by cases h⟩
  | a :: r, x, p, e => by
    rw [List.foldl_cons] at e ⊢
    obtain ⟨h1, h2, h3⟩ := Tells.fold h r (f a x) (fun b hb => p b (List.mem_cons_of_mem _ hb)) e
    obtain ⟨g1, g2, g3⟩ := h.out a x (p a (List.mem_cons_self ..)) h1
    refine ⟨g1, by rw [h2, g2, List.flatMap_cons, List.append_assoc], fun b hb => ?_⟩
    rcases List.mem_cons.1 hb with rfl | hb
    · exact g3
    · exact h3 b hb
theorem Tells.folds {α : Type} {f : α → W → W} {enc : α → Bs} {pre ok : α → Prop} (h : Tells f enc pre ok) : ∀ (l m : List α) (r s : Bs), l.length = m.length → (∀ a ∈ l, ok a) → (∀ a ∈ m, ok a) → l.flatMap enc ++ r = m.flatMap enc ++ s → l = m ∧ r = s
  | [], [], r, s, _, _, _, e => ⟨rfl, by simpa using e⟩
  | [], _ :: _, _, _, hl, _, _, _ => by cases hl
  | _ :: _, [], _, _, hl, _, _, _ => by cases hl
  | a :: l, b :: m, r, s, hl, ha, hb, e => by
    rw [List.flatMap_cons, List.flatMap_cons, List.append_assoc, List.append_assoc] at e
    obtain ⟨h1, h2⟩ := h.inj _ _ _ _ (ha a (List.mem_cons_self ..)) (hb b (List.mem_cons_self ..)) e
    obtain ⟨h3, h4⟩ := Tells.folds h l m r s (by simpa using hl) (fun x hx => ha x (List.mem_cons_of_mem _ hx)) (fun x hx => hb x (List.mem_cons_of_mem _ hx)) h2
    exact ⟨by rw [h1, h3], h4⟩
theorem Tells.list {α : Type} {f : α → W → W} {enc : α → Bs} {pre ok : α → Prop} (h : Tells f enc pre ok) :
    Tells (fun (l : List α) x => l.foldl (fun x a => f a x) (wnum l.length x)) (fun l => put l.length ++ l.flatMap enc) (fun l => ∀ a ∈ l, pre a) (fun l => (0 ≤ (l.length : Int) ∧ (l.length : Int) ≤ 1073741824) ∧ ∀ a ∈ l, ok a) where
  out l x p e := by
    obtain ⟨h1, h2, h3⟩ := h.fold l _ p e
    obtain ⟨g1, g2, g3⟩ := tells_num.out _ _ trivial h1
    exact ⟨g1, by rw [h2, g2, List.append_assoc], g3, h3⟩
  inj a b r s ha hb e := by
    rw [List.append_assoc, List.append_assoc] at e
    obtain ⟨h1, h2⟩ := tells_num.inj _ _ _ _ ha.1 hb.1 e
    exact h.folds _ _ _ _ (by omega) ha.2 hb.2 h2
def verPair (v : Ver) : ((Dot × List Dot) × Bool) × Bs := (((v.dot, v.past), v.dead), v.data)
theorem verPair_inj (v u : Ver) (h : verPair v = verPair u) : v = u := by
  cases v; cases u
  simp only [verPair, Prod.mk.injEq] at h
  obtain ⟨⟨⟨rfl, rfl⟩, rfl⟩, rfl⟩ := h
  rfl
theorem Tells.less {α : Type} {f : α → W → W} {enc : α → Bs} {pre ok : α → Prop} (h : Tells f enc pre ok) (pre' : α → Prop) (hp : ∀ a, pre' a → pre a) : ∃ enc ok, Tells f enc pre' ok :=
  ⟨enc, ok, ⟨fun a x p e => h.out a x (hp a p) e, h.inj⟩⟩
theorem tells_dot : ∃ enc ok, Tells wdot enc (fun _ => True) ok := (tells_num.seq tells_num).less _ fun _ _ => ⟨trivial, trivial⟩
theorem tells_vec : ∃ enc ok, Tells wvec enc (fun _ => True) ok := by
  obtain ⟨enc, ok, h⟩ := tells_dot
  exact (h.list.ifs vcheck).less _ fun _ _ _ _ => trivial
theorem tells_ver : ∃ enc ok, Tells wver enc (fun _ => True) ok := by
  obtain ⟨enc, ok, h⟩ := tells_dot
  obtain ⟨enc', ok', h'⟩ := tells_vec
  exact ((((h.seq h').seq tells_flag).seq tells_text).map verPair verPair_inj).less _ fun _ _ => ⟨⟨⟨trivial, trivial⟩, trivial⟩, trivial⟩
theorem tells_leaf : ∃ enc ok, Tells wleaf enc (fun _ => True) ok := by
  obtain ⟨enc, ok, h⟩ := tells_ver
  exact (h.list.ifs leaf).less _ fun _ _ _ _ => trivial
theorem tells_kid : ∃ enc ok, Tells wkid enc (fun k => k.2.length = 32) ok := (tells_text.seq tells_digest).less _ fun _ h => ⟨trivial, h⟩
theorem tells_node : ∃ enc ok, Tells (fun (n : Node) x => wkids n.2 (wnum n.2.length (wleaf n.1 x))) enc (fun n => ∀ k ∈ n.2, k.2.length = 32) ok := by
  obtain ⟨enc, ok, h⟩ := tells_leaf
  obtain ⟨enc', ok', h'⟩ := tells_kid
  exact (h.seq h'.list).less _ fun _ h => ⟨trivial, h⟩
theorem nbytes_out {n : Node} (h : (nbytes n).2 = 0) : (nbytes n).1 = (wnode n).1 ∧ (wnode n).2 = 0 := by
  unfold nbytes at h ⊢
  by_cases hc : ncheck n = 0
  · have hc' : ¬ ncheck n ≠ 0 := fun h => h hc
    rw [if_neg hc'] at h ⊢
    unfold wdone at h ⊢
    by_cases hw : (wnode n).2 = 0
    · rw [if_pos hw]; exact ⟨rfl, hw⟩
    · rw [if_neg hw] at h; exact absurd h hw
  · rw [if_pos hc] at h; exact absurd h hc
theorem nbytes_inj {n m : Node} (hn : (nbytes n).2 = 0) (hm : (nbytes m).2 = 0) (kn : ∀ k ∈ n.2, k.2.length = 32) (km : ∀ k ∈ m.2, k.2.length = 32) (h : (nbytes n).1 = (nbytes m).1) : n = m := by
  obtain ⟨n1, n2⟩ := nbytes_out hn
  obtain ⟨m1, m2⟩ := nbytes_out hm
  rw [n1, m1] at h
  obtain ⟨enc, ok, T⟩ := tells_node
  obtain ⟨_, a2, a3⟩ := T.out n ([], 0) kn n2
  obtain ⟨_, b2, b3⟩ := T.out m ([], 0) km m2
  have e : (wnode n).1 = (wnode m).1 := h
  unfold wnode at e
  simp only at a2 b2
  rw [a2, b2] at e
  refine (T.inj n m [] [] a3 b3 ?_).1
  simpa using e
end Sp
end Go.Proofs.YtmlfnidckfeebaaGreatDoor
namespace Go.Proofs.YtmlfnidckfeebaaGreatDoor
open Go.RowKit
namespace Sp
/-! What may be written is written. -/
theorem wput_ok {s : Bs} {x : W} (h : x.2 = 0) : (wput true s x).2 = 0 := by
  unfold wput
  rw [if_neg (by simpa using h)]; rfl
theorem wnum_ok {n : Int} {x : W} (h : x.2 = 0) (h0 : 0 ≤ n) (h1 : n ≤ 1073741824) : (wnum n x).2 = 0 := by
  unfold wnum
  rw [decide_eq_true ⟨h0, h1⟩]
  exact wput_ok h
theorem wtext_ok {s : Bs} {x : W} (h : x.2 = 0) (h0 : s.length ≤ 65536) : (wtext s x).2 = 0 := by
  unfold wtext
  rw [decide_eq_true h0]
  exact wput_ok h
theorem wdots_ok : ∀ (l : List Dot) (x : W), x.2 = 0 → (∀ d ∈ l, dot d = 0) → (wdots l x).2 = 0
  | [], _, h, _ => h
  | d :: r, x, h, hd => by
    have h1 := dot_ok.1 (hd d (List.mem_cons_self ..))
    exact wdots_ok r (wdot d x) (wnum_ok (wnum_ok h h1.1 (by omega)) (by omega) (by omega)) fun y hy => hd y (List.mem_cons_of_mem _ hy)
theorem wvec_ok {v : List Dot} {x : W} (h : x.2 = 0) (hv : vcheck v = 0) : (wvec v x).2 = 0 := by
  unfold wvec
  rw [if_neg (by simpa using hv)]
  have hl := vcheck_len hv
  refine wdots_ok v _ (wnum_ok h (by omega) (by omega)) fun d hd => ?_
  exact (((vgo_ok v (-1)).1 hv).1 d hd).1
theorem wver_ok {v : Ver} {x : W} (h : x.2 = 0) (hv : vercheck v = 0) : (wver v x).2 = 0 := by
  obtain ⟨h1, h2, _, h4, _⟩ := vercheck_ok hv
  have h5 := dot_ok.1 h1
  unfold wver
  exact wtext_ok (wput_ok (wvec_ok (wnum_ok (wnum_ok h h5.1 (by omega)) (by omega) (by omega)) h2)) (by omega)
theorem wvers_ok : ∀ (l : List Ver) (x : W), x.2 = 0 → (∀ v ∈ l, vercheck v = 0) → (wvers l x).2 = 0
  | [], _, h, _ => h
  | v :: r, x, h, hv => wvers_ok r (wver v x) (wver_ok h (hv v (List.mem_cons_self ..))) fun y hy => hv y (List.mem_cons_of_mem _ hy)
theorem wleaf_ok {l : List Ver} {x : W} (h : x.2 = 0) (hl : leaf l = 0) : (wleaf l x).2 = 0 := by
  unfold wleaf
  rw [if_neg (by simpa using hl)]
  have h1 := leaf_ok hl
  exact wvers_ok l _ (wnum_ok h (by omega) (by omega)) (lgo_vers l none h1.2.1)
theorem wkids_ok : ∀ (l : List Kid) (x : W), x.2 = 0 → (∀ k ∈ l, k.1.length ≤ 65536) → (wkids l x).2 = 0
  | [], _, h, _ => h
  | k :: r, x, h, hk => wkids_ok r (wkid k x) (wput_ok (wtext_ok h (hk k (List.mem_cons_self ..)))) fun y hy => hk y (List.mem_cons_of_mem _ hy)
theorem kgo_zero : ∀ (l : List Kid) (p : Option Bs), (∀ k ∈ l, name k.1 = true) → (l.map (·.1)).Pairwise (fun a b => Op.bytesLess a b = true) → (∀ q, p = some q → ∀ k ∈ l, Op.bytesLess q k.1 = true) → kgo p l = 0
  | [], _, _, _, _ => rfl
  | k :: r, p, hn, hr, hp => by
    rw [List.map_cons, List.pairwise_cons] at hr
    rw [kgo, if_neg (by rw [hn k (List.mem_cons_self ..)]; simp), if_neg ?_]
    · exact kgo_zero r (some k.1) (fun x hx => hn x (List.mem_cons_of_mem _ hx)) hr.2 fun q hq x hx => by
        obtain rfl := Option.some.inj hq
        exact hr.1 x.1 (List.mem_map.2 ⟨x, hx, rfl⟩)
    · cases p with
      | none => simp
      | some q =>
        have h1 := hp q rfl k (List.mem_cons_self ..)
        intro h
        simp only [Option.any_some, le, Bool.or_eq_true, beq_iff_eq] at h
        rcases h with h | h
        · have := less_trans h1 h
          rw [less_irr] at this; cases this
        · rw [h, less_irr] at h1; cases h1
theorem okL_names : ∀ (k : List (Bs × T)), OkL k → ∀ x ∈ k, name x.1 = true ∧ Ok x.2 ∧ entries x.2 ≠ []
  | (n, t) :: r, h, x, hx => by
    rcases List.mem_cons.1 hx with rfl | hx
    · exact ⟨h.1, h.2.2.1, h.2.1⟩
    · exact okL_names r h.2.2.2 x hx
theorem kids_few : ∀ (k : List (Bs × T)), OkL k → k.length ≤ sizeL k
  | [], _ => Nat.le_refl _
  | (n, t) :: r, h => by
    have h1 := kids_few r h.2.2.2
    have h2 : 0 < sizeT t := by rw [sizeT_len]; exact List.length_pos_iff.2 h.2.1
    rw [sizeL, List.length_cons]; omega
theorem kidsT_eq : ∀ (k : List (Bs × T)), kidsT k = k.map fun x => (x.1, nsum (nodeT x.2))
  | [] => rfl
  | (n, t) :: r => by rw [kidsT, kidsT_eq r]; rfl
theorem node_writes : ∀ t : T, Ok t → sizeT t ≤ 128 → (nbytes (nodeT t)).2 = 0
  | .mk lf k, h, hs => by
    obtain ⟨h1, h2, h3⟩ := h
    have hl : leaf lf = 0 := by
      by_cases h0 : lf = []
      · rw [h0]; rfl
      · exact h1 h0
    have hk := kids_few k h3
    rw [sizeT] at hs
    have hn : ∀ x ∈ kidsT k, name x.1 = true := fun x hx => by
      rw [kidsT_eq] at hx
      obtain ⟨y, hy, rfl⟩ := List.mem_map.1 hx
      exact (okL_names k h3 y hy).1
    have hm : (kidsT k).map (·.1) = k.map (·.1) := by rw [kidsT_eq, List.map_map]; rfl
    have hc : ncheck (nodeT (.mk lf k)) = 0 := by
      unfold ncheck
      rw [nodeT, if_neg (by simpa using hl)]
      unfold kcheck
      rw [if_neg (by simp only [kidsT_eq, List.length_map]; omega)]
      exact kgo_zero _ none hn (by rw [hm]; exact h2) fun q hq => by cases hq
    unfold nbytes
    rw [if_neg (by simpa using hc)]
    have : (wnode (nodeT (.mk lf k))).2 = 0 := by
      unfold wnode
      rw [nodeT]
      refine wkids_ok _ _ (wnum_ok (wleaf_ok rfl hl) (by omega) ?_) fun x hx => Nat.le_trans (name_len (hn x hx)) (by decide)
      simp only [kidsT_eq, List.length_map]
      omega
    unfold wdone
    rw [if_pos this]
mutual
/-- The bytes of all nodes of a tree. -/
def textsT : T → List Bs
  | .mk lf k => (nbytes (nodeT (.mk lf k))).1 :: textsL k
def textsL : List (Bs × T) → List Bs
  | [] => []
  | (_, t) :: r => textsT t ++ textsL r
end
theorem kidsT_32 (k : List (Bs × T)) : ∀ x ∈ kidsT k, x.2.length = 32 := fun x hx => by
  rw [kidsT_eq] at hx
  obtain ⟨y, _, rfl⟩ := List.mem_map.1 hx
  exact nsum_len _
mutual
/-- Trees of one digest are the same, where unlike bytes of their nodes have unlike digests. -/
theorem tree_eq : ∀ (t u : T), Ok t → Ok u → sizeT t ≤ 128 → sizeT u ≤ 128 → (∀ x ∈ textsT t, ∀ y ∈ textsT u, sha x = sha y → x = y) → nsum (nodeT t) = nsum (nodeT u) → t = u
  | .mk lf k, .mk lf' k', ht, hu, st, su, hc, h => by
    have wt := node_writes _ ht st
    have wu := node_writes _ hu su
    unfold nsum at h
    rw [if_neg (by simpa using wt), if_neg (by simpa using wu)] at h
    have hb := hc _ (by rw [textsT]; exact List.mem_cons_self ..) _ (by rw [textsT]; exact List.mem_cons_self ..) h
    have hn := nbytes_inj wt wu (by rw [nodeT]; exact kidsT_32 k) (by rw [nodeT]; exact kidsT_32 k') hb
    rw [nodeT, nodeT, Prod.mk.injEq] at hn
    rw [hn.1, kids_eq k k' ht.2.2 hu.2.2 (by rw [sizeT] at st; omega) (by rw [sizeT] at su; omega) (fun x hx y hy => hc x (by rw [textsT]; exact List.mem_cons_of_mem _ hx) y (by rw [textsT]; exact List.mem_cons_of_mem _ hy)) hn.2]
theorem kids_eq : ∀ (k k' : List (Bs × T)), OkL k → OkL k' → sizeL k ≤ 128 → sizeL k' ≤ 128 → (∀ x ∈ textsL k, ∀ y ∈ textsL k', sha x = sha y → x = y) → kidsT k = kidsT k' → k = k'
  | [], [], _, _, _, _, _, _ => rfl
  | [], (_, _) :: _, _, _, _, _, _, h => by rw [kidsT, kidsT] at h; cases h
  | (_, _) :: _, [], _, _, _, _, _, h => by rw [kidsT, kidsT] at h; cases h
  | (n, t) :: r, (n', t') :: r', hk, hk', sk, sk', hc, h => by
    rw [kidsT, kidsT, List.cons.injEq, Prod.mk.injEq] at h
    obtain ⟨⟨rfl, h1⟩, h2⟩ := h
    rw [sizeL] at sk sk'
    rw [tree_eq t t' hk.2.2.1 hk'.2.2.1 (by omega) (by omega) (fun x hx y hy => hc x (by rw [textsL]; exact List.mem_append_left _ hx) y (by rw [textsL]; exact List.mem_append_left _ hy)) h1,
      kids_eq r r' hk.2.2.2 hk'.2.2.2 (by omega) (by omega) (fun x hx y hy => hc x (by rw [textsL]; exact List.mem_append_right _ hx) y (by rw [textsL]; exact List.mem_append_right _ hy)) h2]
end
def clashS (l : List Bs) : Bool := (List.range l.length).any fun i => (List.range i).any fun k => decide (sha (l.getD k []) = sha (l.getD i [])) && decide (l.getD k [] ≠ l.getD i [])
theorem clash_no {A B : List Bs} (h : clashS (A ++ B) = false) : ∀ x ∈ A, ∀ y ∈ B, sha x = sha y → x = y := by
  intro x hx y hy hs
  apply Decidable.byContradiction
  intro hne
  obtain ⟨i, hi, rfl⟩ := List.getElem_of_mem hx
  obtain ⟨j, hj, rfl⟩ := List.getElem_of_mem hy
  have : clashS (A ++ B) = true := by
    unfold clashS
    refine List.any_eq_true.2 ⟨A.length + j, List.mem_range.2 (by rw [List.length_append]; omega), List.any_eq_true.2 ⟨i, List.mem_range.2 (by omega), ?_⟩⟩
    have e1 : (A ++ B).getD i [] = A[i] := by rw [List.getD_eq_getElem?_getD, List.getElem?_append_left hi, List.getElem?_eq_getElem hi]; rfl
    have e2 : (A ++ B).getD (A.length + j) [] = B[j] := by rw [List.getD_eq_getElem?_getD, List.getElem?_append_right (by omega), Nat.add_sub_cancel_left, List.getElem?_eq_getElem hj]; rfl
    rw [e1, e2]
    simp only [Bool.and_eq_true, decide_eq_true_eq]
    exact ⟨hs, hne⟩
  rw [this] at h
  cases h
theorem open_kid {a b : T} {f : Nat} {d : Bs} {k : Two} (hk : k ∈ kids2 (nodeS a d).2 (nodeS b d).2) (h : differ2 k = true) {p : Bs} (hp : p ∈ openT a b f (down d k.1)) : p ∈ openT a b (f + 1) d := by
  rw [openT]
  exact List.mem_cons_of_mem _ (List.mem_flatMap.2 ⟨k, List.mem_filter.2 ⟨hk, h⟩, hp⟩)
theorem open_rise {oa ob : Option T} {ma mb : List DE} (PA : Both oa ma) (PB : Both ob mb) : ∀ (f : Nat) (d : Bs), Dir d → (∀ e ∈ openT (oa.getD .nil) (ob.getD .nil) f d, ∃ q, parts e = parts d ++ q) ∧ (openT (oa.getD .nil) (ob.getD .nil) f d).Pairwise fun x y => cmpP (parts x) (parts y) = -1
  | 0, d, _ => ⟨(fun e h => by cases h), List.Pairwise.nil⟩
  | f + 1, d, hd => by
    have sub : ∀ k ∈ (kids2 (nodeS (oa.getD .nil) d).2 (nodeS (ob.getD .nil) d).2).filter differ2, ∀ e ∈ openT (oa.getD .nil) (ob.getD .nil) f (down d k.1), ∃ q, parts e = parts d ++ k.1 :: q := fun k hk e he => by
      obtain ⟨d1, d2, _⟩ := kid_two PA PB hd (List.mem_filter.1 hk).1
      obtain ⟨q, hq⟩ := (open_rise PA PB f _ d1).1 e he
      exact ⟨q, by rw [hq, d2, List.append_assoc]; rfl⟩
    have kr : ((kids2 (nodeS (oa.getD .nil) d).2 (nodeS (ob.getD .nil) d).2).filter differ2).Pairwise fun x y => Op.bytesLess x.1 y.1 = true := by
      have := (kids2_of _ _ (node_rise PA.go d hd) (node_rise PB.go d hd)).1
      exact (List.pairwise_map.1 this).sublist List.filter_sublist
    have ks : ∀ k ∈ (kids2 (nodeS (oa.getD .nil) d).2 (nodeS (ob.getD .nil) d).2).filter differ2, (openT (oa.getD .nil) (ob.getD .nil) f (down d k.1)).Pairwise fun x y => cmpP (parts x) (parts y) = -1 := fun k hk =>
      (open_rise PA PB f _ (kid_two PA PB hd (List.mem_filter.1 hk).1).1).2
    rw [openT]
    obtain ⟨K, hK⟩ : ∃ K, K = (kids2 (nodeS (oa.getD .nil) d).2 (nodeS (ob.getD .nil) d).2).filter differ2 := ⟨_, rfl⟩
    rw [← hK] at sub kr ks ⊢
    have flat : (K.flatMap fun k => openT (oa.getD .nil) (ob.getD .nil) f (down d k.1)).Pairwise fun x y => cmpP (parts x) (parts y) = -1 := by
      clear hK
      induction K with
      | nil => exact List.Pairwise.nil
      | cons k r ih =>
        obtain ⟨r1, r2⟩ := List.pairwise_cons.1 kr
        rw [List.flatMap_cons]
        refine List.pairwise_append.2 ⟨ks k (List.mem_cons_self ..), by first | exact ih (fun x hx => ks x (List.mem_cons_of_mem _ hx)) r2 (fun x hx => sub x (List.mem_cons_of_mem _ hx)) | exact ih (fun x hx => sub x (List.mem_cons_of_mem _ hx)) (fun x hx => ks x (List.mem_cons_of_mem _ hx)) r2 | exact ih r2 (fun x hx => sub x (List.mem_cons_of_mem _ hx)) (fun x hx => ks x (List.mem_cons_of_mem _ hx)), fun x hx y hy => ?_⟩
        obtain ⟨q, hq⟩ := sub k (List.mem_cons_self ..) x hx
        obtain ⟨k', hk', hy2⟩ := List.mem_flatMap.1 hy
        obtain ⟨q', hq'⟩ := sub k' (List.mem_cons_of_mem _ hk') y hy2
        rw [hq, hq', cmpP_app]
        exact head_less (r1 k' hk') _ _
    refine ⟨fun e he => ?_, List.pairwise_cons.2 ⟨fun y hy => ?_, flat⟩⟩
    · rcases List.mem_cons.1 he with rfl | he
      · exact ⟨[], by simp⟩
      · obtain ⟨k, hk, h2⟩ := List.mem_flatMap.1 he
        obtain ⟨q, hq⟩ := sub k hk e h2
        exact ⟨_, hq⟩
    · obtain ⟨k, hk, h2⟩ := List.mem_flatMap.1 hy
      obtain ⟨q, hq⟩ := sub k hk y h2
      rw [hq]
      have := cmpP_app (parts d) [] (k.1 :: q)
      rw [List.append_nil] at this
      rw [this]
      rfl
def differT (a b : T) : List Bs := (openedT a b).filter (leafdiff a b)
theorem differ_dir {oa ob : Option T} {ma mb : List DE} (PA : Both oa ma) (PB : Both ob mb) : ∀ p ∈ differT (oa.getD .nil) (ob.getD .nil), check p = 0 ∧ leafdiff (oa.getD .nil) (ob.getD .nil) p = true := fun p hp => by
  obtain ⟨h1, h2⟩ := List.mem_filter.1 hp
  unfold openedT at h1
  split at h1
  · cases h1
  · rcases openT_dir PA PB 5 [] (.inl rfl) p h1 with rfl | h
    · unfold leafdiff at h2
      rw [leaf_root PA, leaf_root PB] at h2
      cases h2
    · exact ⟨h, h2⟩
theorem differ_rise {oa ob : Option T} {ma mb : List DE} (PA : Both oa ma) (PB : Both ob mb) : (differT (oa.getD .nil) (ob.getD .nil)).Pairwise fun x y => compare x y = -1 := by
  have h0 : (differT (oa.getD .nil) (ob.getD .nil)).Pairwise fun x y => cmpP (parts x) (parts y) = -1 := by
    unfold differT openedT
    split
    · exact List.Pairwise.nil
    · exact (open_rise PA PB 5 [] (.inl rfl)).2.sublist List.filter_sublist
  refine h0.imp_of_mem fun {x y} hx hy h => ?_
  have h1 := (check_parts (differ_dir PA PB x hx).1).1
  have h2 := (check_parts (differ_dir PA PB y hy).1).1
  unfold compare
  rw [← h1, ← h2]
  exact h
mutual
theorem texts_sub : ∀ (d : List Bs) (t s : T), findT t d = some s → ∀ x ∈ textsT s, x ∈ textsT t
  | [], t, s, h, x, hx => by cases h; exact hx
  | n :: d, .mk leaf k, s, h, x, hx => by
    change (kid k n).bind (fun u => findT u d) = some s at h
    cases hk : kid k n with
    | none => rw [hk] at h; cases h
    | some u =>
      rw [hk] at h
      have h2 := texts_sub d u s h x hx
      rw [textsT]
      exact List.mem_cons_of_mem _ (texts_kid k n u hk x h2)
theorem texts_kid : ∀ (k : List (Bs × T)) (n : Bs) (u : T), kid k n = some u → ∀ x ∈ textsT u, x ∈ textsL k
  | [], _, _, h, _, _ => by cases h
  | (m, s) :: r, n, u, h, x, hx => by
    rw [kid] at h
    rw [textsL]
    split at h
    · cases h; exact List.mem_append_left _ hx
    · exact List.mem_append_right _ (texts_kid r n u h x hx)
end
theorem dir_next {p d : Bs} (hp : check p = 0) (hd : Dir d) (hu : under p d = true) : ∃ n, Dir (down d n) ∧ parts (down d n) = parts d ++ [n] ∧ (p = down d n ∨ under p (down d n) = true) := by
  have eu := under_parts hu
  have hc := check_parts hp
  obtain ⟨n, hn⟩ : ∃ n, n = (parts p).getD (parts d).length [] := ⟨_, rfl⟩
  have hsp : split p = (parts d ++ [n]) ++ (parts p).drop ((parts d).length + 1) := by
    rw [← hc.1]
    have := split_at (parts p) _ [] eu.2.2.1
    rw [eu.2.2.2, ← hn] at this
    rw [List.append_assoc]
    exact this
  have hq := check_prefix hp hsp (by simp)
  rw [← down_is hd n] at hq
  refine ⟨n, .inr hq.1, hq.2, ?_⟩
  by_cases hr : (parts p).drop ((parts d).length + 1) = []
  · left
    rw [hr, List.append_nil, ← hq.2, (check_parts hq.1).1] at hsp
    exact split_inj hsp
  · right
    refine under_of ⟨eu.1, .inr (by rw [hq.2]; simp), ?_, ?_⟩
    · rw [hq.2, List.length_append, List.length_singleton]
      have := List.length_pos_iff.2 hr
      rw [List.length_drop] at this
      omega
    · rw [hc.1, hsp, hq.2]
      exact List.take_left' rfl
theorem find_ok {o : Option T} {m : List DE} (P : Both o m) {d : Bs} (hd : Dir d) {s : T} (h : findS (o.getD .nil) d = some s) : Ok s ∧ sizeT s ≤ 128 ∧ ∀ x ∈ textsT s, x ∈ textsT (o.getD .nil) := by
  rw [find_dir hd] at h
  refine ⟨(findT_subs (parts d) (o.getD .nil) (getD_ok P.go.1)).2 s h, ?_, texts_sub _ _ _ h⟩
  have h1 := findT_small _ _ _ h
  have h2 : sizeT (o.getD .nil) ≤ 128 := by rw [getD_size]; exact P.go.2
  omega
theorem all_told {oa ob : Option T} {ma mb : List DE} (PA : Both oa ma) (PB : Both ob mb) (hc : ∀ x ∈ textsT (oa.getD .nil), ∀ y ∈ textsT (ob.getD .nil), sha x = sha y → x = y) (p : Bs) (hp : check p = 0) (hl : leafdiff (oa.getD .nil) (ob.getD .nil) p = true) :
    ∀ (f : Nat) (d : Bs), Dir d → diffS oa ob d = true → 5 ≤ (parts d).length + f → (p = d ∨ under p d = true) → p ∈ openT (oa.getD .nil) (ob.getD .nil) f d
  | 0, d, hd, _, h5, _ => by have := parts_len d; omega
  | f + 1, d, hd, hdf, h5, hpd => by
    rcases hpd with rfl | hu
    · rw [openT]; exact List.mem_cons_self ..
    · obtain ⟨n, n1, n2, n3⟩ := dir_next hp hd hu
      have hdn : diffS oa ob (down d n) = true := by
        refine Decidable.byContradiction fun hno => ?_
        have hpq : ∃ q, parts p = parts (down d n) ++ q := by
          rcases n3 with rfl | h
          · exact ⟨[], by simp⟩
          · have e := (under_parts h).2.2.2
            refine ⟨(parts p).drop (parts (down d n)).length, ?_⟩
            conv => lhs; rw [← List.take_append_drop (parts (down d n)).length (parts p), e]
        obtain ⟨q, hq⟩ := hpq
        have hfp : ∀ t : T, findS t p = (findS t (down d n)).bind fun s => findT s q := fun t => by
          rw [find_dir (.inr hp), find_dir n1, hq]
          generalize parts (down d n) = D
          clear hq
          induction D generalizing t with
          | nil => rfl
          | cons m D ih =>
            show (kid t.kids m).bind (fun u => findT u (D ++ q)) = ((kid t.kids m).bind fun u => findT u D).bind _
            cases kid t.kids m with
            | none => rfl
            | some u => exact ih u
        have heq : nodeS (oa.getD .nil) p = nodeS (ob.getD .nil) p := by
          unfold nodeS
          rw [hfp, hfp]
          unfold diffS at hno
          cases ea : findS (oa.getD .nil) (down d n) with
          | none =>
            cases eb : findS (ob.getD .nil) (down d n) with
            | none => rfl
            | some t => rw [ea, eb] at hno; exact absurd rfl hno
          | some s =>
            cases eb : findS (ob.getD .nil) (down d n) with
            | none => rw [ea, eb] at hno; exact absurd rfl hno
            | some t =>
              rw [ea, eb] at hno
              have hs : nsum (nodeT s) = nsum (nodeT t) := by simpa using hno
              obtain ⟨s1, s2, s3⟩ := find_ok PA n1 ea
              obtain ⟨t1, t2, t3⟩ := find_ok PB n1 eb
              have := tree_eq s t s1 t1 s2 t2 (fun x hx y hy => hc x (s3 x hx) y (t3 y hy)) hs
              rw [this]
        unfold leafdiff at hl
        rw [heq] at hl
        simp at hl
      have hb : n ∈ belowS d (ma ++ mb) := by
        have hchk : ∀ e ∈ ma ++ mb, check e.1 = 0 := fun e he => (List.mem_append.1 he).elim (PA.gm.1 e) (PB.gm.1 e)
        rw [below_kids PA PB hd]
        obtain ⟨k1, k2, k3⟩ := kids2_of _ _ (node_rise PA.go d hd) (node_rise PB.go d hd)
        refine k3 n ?_
        by_cases h1 : n ∈ (nodeS (oa.getD .nil) d).2.map (·.1)
        · exact .inl h1
        · refine .inr (Decidable.byContradiction fun h2 => ?_)
          have e1 := (kid_find PA.go hd n1 n2).2 h1
          have e2 := (kid_find PB.go hd n1 n2).2 h2
          unfold diffS at hdn
          rw [e1, e2] at hdn
          cases hdn
      rw [below_kids PA PB hd] at hb
      obtain ⟨k, hk, rfl⟩ := List.mem_map.1 hb
      obtain ⟨d1, d2, d3, _, d5⟩ := kid_two PA PB hd hk
      refine open_kid hk (by rw [← d5]; exact hdn) (all_told PA PB hc p hp hl f _ d1 hdn ?_ n3)
      rw [d2, List.length_append, List.length_singleton]
      omega
theorem differ_mem {oa ob : Option T} {ma mb : List DE} (PA : Both oa ma) (PB : Both ob mb) (hc : ∀ x ∈ textsT (oa.getD .nil), ∀ y ∈ textsT (ob.getD .nil), sha x = sha y → x = y) (p : Bs) :
    p ∈ differT (oa.getD .nil) (ob.getD .nil) ↔ check p = 0 ∧ rget ma p ≠ rget mb p := by
  have hk : ∀ (hp : check p = 0), leafdiff (oa.getD .nil) (ob.getD .nil) p = true ↔ rget ma p ≠ rget mb p := fun hp => by
    unfold leafdiff
    rw [(names_node PA (.inr hp)).2, (names_node PB (.inr hp)).2]
    simp
  constructor
  · intro h
    obtain ⟨h1, h2⟩ := differ_dir PA PB p h
    exact ⟨h1, (hk h1).1 h2⟩
  · rintro ⟨hp, h⟩
    have hl := (hk hp).2 h
    have hroot : nsum (nodeT (oa.getD .nil)) ≠ nsum (nodeT (ob.getD .nil)) := fun e => by
      have h1 : sizeT (oa.getD .nil) ≤ 128 := by rw [getD_size]; exact PA.go.2
      have h2 : sizeT (ob.getD .nil) ≤ 128 := by rw [getD_size]; exact PB.go.2
      have := tree_eq _ _ (getD_ok PA.go.1) (getD_ok PB.go.1) h1 h2 hc e
      unfold leafdiff at hl
      rw [this] at hl
      simp at hl
    refine List.mem_filter.2 ⟨?_, hl⟩
    unfold openedT
    rw [if_neg hroot]
    refine all_told PA PB hc p hp hl 5 [] (.inl rfl) ?_ (by rw [parts_empty]; decide) (.inr (under_root hp))
    rw [diff_root]
    simpa using hroot
structure Chg where
  path : Bs
  kind : Int
  was : Bs
  now : Bs
deriving DecidableEq, Inhabited
def data0 (l : List Ver) : Bs := ((winner l).map (·.data)).getD []
def kindS (x y : List Ver) : Int := if live x = [] ∧ live y ≠ [] then 1 else if live x ≠ [] ∧ live y = [] then 2 else if data0 x ≠ data0 y then 3 else if (live x).length ≠ (live y).length then 4 else 0
def changeS (p : Bs) (x y : List Ver) : Option Chg := if kindS x y = 0 then none else some ⟨p, kindS x y, data0 x, data0 y⟩
def betweenL (l : List Bs) (f g : Bs → List Ver) : List Chg := l.filterMap fun p => changeS p (f p) (g p)
def betweenS (a b : T) : List Chg := betweenL (differT a b) (fun p => (nodeS a p).1) (fun p => (nodeS b p).1)
theorem fm_congr {α β : Type} {f g : α → Option β} : ∀ (l : List α), (∀ x ∈ l, f x = g x) → l.filterMap f = l.filterMap g
  | [], _ => rfl
  | x :: r, h => by rw [List.filterMap_cons, List.filterMap_cons, h x (List.mem_cons_self ..), fm_congr r fun y hy => h y (List.mem_cons_of_mem _ hy)]
theorem between_both {oa ob : Option T} {ma mb : List DE} (PA : Both oa ma) (PB : Both ob mb) : betweenL (differT (oa.getD .nil) (ob.getD .nil)) (rget ma) (rget mb) = betweenS (oa.getD .nil) (ob.getD .nil) := by
  unfold betweenS betweenL
  refine fm_congr _ fun p hp => ?_
  have hc := (differ_dir PA PB p hp).1
  rw [(names_node PA (.inr hc)).2, (names_node PB (.inr hc)).2]
theorem rise_ne {m : List DE} (h : RiseE (toP m)) : m.Pairwise fun a b => a.1 ≠ b.1 := by
  unfold RiseE toP at h
  rw [List.pairwise_map] at h
  refine h.imp fun {a b} hab e => ?_
  rw [e, cmpP_self] at hab
  cases hab
theorem rget_none {m : List DE} {p : Bs} (h : ∀ e ∈ m, e.1 ≠ p) : rget m p = [] := by
  induction m with
  | nil => rfl
  | cons e r ih => rw [rget, if_neg (h e (List.mem_cons_self ..))]; exact ih fun x hx => h x (List.mem_cons_of_mem _ hx)
theorem shown_mem {m : List DE} {e : DE} (h : e ∈ shownM m) : ∃ y ∈ m, y.1 = e.1 ∧ live y.2 = e.2 ∧ e.2 ≠ [] := by
  unfold shownM at h
  obtain ⟨y, hy, h2⟩ := List.mem_filterMap.1 h
  by_cases hl : live y.2 = []
  · rw [if_pos hl] at h2; cases h2
  · rw [if_neg hl] at h2
    cases h2
    exact ⟨y, hy, rfl, rfl, hl⟩
theorem rget_shown : ∀ (m : List DE), m.Pairwise (fun a b => a.1 ≠ b.1) → ∀ p, rget (shownM m) p = live (rget m p)
  | [], _, p => rfl
  | e :: r, h, p => by
    obtain ⟨h1, h2⟩ := List.pairwise_cons.1 h
    have ih := rget_shown r h2 p
    have e1 : shownM (e :: r) = if live e.2 = [] then shownM r else (e.1, live e.2) :: shownM r := by
      unfold shownM
      rw [List.filterMap_cons]
      by_cases hl : live e.2 = [] <;> simp [hl]
    rw [e1, rget]
    by_cases he : e.1 = p
    · rw [if_pos he]
      by_cases hl : live e.2 = []
      · rw [if_pos hl, hl]
        refine rget_none fun x hx => ?_
        obtain ⟨y, hy, k1, _⟩ := shown_mem hx
        rw [← k1, ← he]
        exact fun k => h1 y hy k.symm
      · rw [if_neg hl, rget, if_pos he]
    · rw [if_neg he]
      by_cases hl : live e.2 = []
      · rw [if_pos hl]; exact ih
      · rw [if_neg hl, rget, if_neg he]; exact ih
theorem told_leaf0 {o : Option T} {m : List DE} (P : Both o m) : ∀ e ∈ m, leaf e.2 = 0 ∧ e.2 ≠ [] := fun e he => by
  refine ⟨?_, P.full e he⟩
  have h1 : (split e.1, e.2) ∈ entriesO o := by rw [← P.eq]; exact List.mem_map_of_mem he
  cases o with
  | none => cases h1
  | some t => exact ent_leaf t (P.go.1 t rfl) _ h1
structure Pair (o : Option T) (m : List DE) : Prop where
  go : GoodO o
  gm : GoodM m
  eq : toP m = entriesO o
theorem Pair.ok {o : Option T} {m : List DE} (h : Pair o m) : Ok (o.getD .nil) := getD_ok h.go.1
theorem Pair.size {o : Option T} {m : List DE} (h : Pair o m) : sizeT (o.getD .nil) ≤ 128 := by
  rw [sizeT_len, entries_getD]; exact h.go.2
theorem Pair.ent {o : Option T} {m : List DE} (h : Pair o m) : toP m = entries (o.getD .nil) := by rw [entries_getD]; exact h.eq
/-! How many nodes a tree has. -/
def depths (E : List PE) : Nat := (E.map fun e => e.1.length).sum
theorem depths_app (E F : List PE) : depths (E ++ F) = depths E + depths F := by unfold depths; rw [List.map_append, List.sum_append]
theorem depths_down (n : Bs) : ∀ E : List PE, depths (E.map fun e => (n :: e.1, e.2)) = E.length + depths E
  | [] => rfl
  | e :: r => by
    have := depths_down n r
    unfold depths at *
    simp only [List.map_cons, List.sum_cons, List.length_cons] at this ⊢
    omega
mutual
theorem texts_len : ∀ t : T, Ok t → (textsT t).length ≤ 1 + depths (entries t)
  | .mk lf k, h => by
    have := textsL_len k h.2.2
    rw [textsT, List.length_cons, entries, depths_app]
    omega
theorem textsL_len : ∀ k : List (Bs × T), OkL k → (textsL k).length ≤ depths (entriesL k)
  | [], _ => Nat.le_refl _
  | (n, t) :: r, h => by
    have h1 := texts_len t h.2.2.1
    have h2 := textsL_len r h.2.2.2
    have h3 := List.length_pos_iff.2 h.2.1
    rw [textsL, List.length_append, entriesL, depths_app, depths_down]
    omega
end
theorem depths_le : ∀ E : List PE, (∀ e ∈ E, e.1.length ≤ 4) → depths E ≤ E.length * 4
  | [], _ => Nat.le_refl _
  | e :: r, h => by
    have h1 := depths_le r fun x hx => h x (List.mem_cons_of_mem _ hx)
    have h2 := h e (List.mem_cons_self ..)
    unfold depths at *
    rw [List.map_cons, List.sum_cons, List.length_cons]; omega
theorem texts_few {t : T} {m : List DE} (ht : Ok t) (hm : GoodM m) (h : toP m = entries t) : (textsT t).length ≤ 513 := by
  have h1 := texts_len t ht
  have h2 := depths_le (entries t) fun e he => by
    rw [← h] at he
    obtain ⟨x, hx, rfl⟩ := List.mem_map.1 he
    exact (check_parts (hm.1 x hx)).2.2.1
  have h3 : (entries t).length ≤ 128 := by rw [← h, toP_len]; exact hm.2
  omega
end Sp
end Go.Proofs.YtmlfnidckfeebaaGreatDoor
namespace Go.Proofs.YtmlfnidckfeebaaGreatDoor
open Go.RowKit Go.Shelf
attribute [local go_sem] yUpon strOf_toList
namespace Sp
theorem textsT_eq (s : T) : textsT s = (nbytes (nodeT s)).1 :: textsL s.kids := by
  cases s; rfl
theorem textsL_take : ∀ (k : List (Bs × T)) (i : Nat) (h : i < k.length), textsL (k.take (i + 1)) = textsL (k.take i) ++ textsT k[i].2
  | (n, t) :: r, 0, _ => by
    show textsT t ++ textsL [] = textsL [] ++ textsT t
    rw [textsL, List.append_nil, List.nil_append]
  | (n, t) :: r, i + 1, h => by
    show textsT t ++ textsL (r.take (i + 1)) = (textsT t ++ textsL (r.take i)) ++ textsT (r[i]'(by simpa using h)).2
    rw [textsL_take r i (by simpa using h), List.append_assoc]
theorem textsL_part : ∀ (k : List (Bs × T)) (i : Nat), (textsL (k.take i)).length ≤ (textsL k).length
  | [], i => by rw [List.take_nil]; exact Nat.le_refl _
  | (n, t) :: r, 0 => Nat.zero_le _
  | (n, t) :: r, i + 1 => by
    have := textsL_part r i
    show (textsT t ++ textsL (r.take i)).length ≤ (textsT t ++ textsL r).length
    rw [List.length_append, List.length_append]; omega
theorem textsT_pos (s : T) : 0 < (textsT s).length := by rw [textsT_eq, List.length_cons]; omega
end Sp
theorem tstr_one (l : List Sp.Bs) : ∀ u ∈ strsC l, u.oneCell' = true := fun u hu => by
  unfold strsC at hu
  obtain ⟨x, _, rfl⟩ := List.mem_map.1 hu
  rfl
theorem tstr_len (l : List Sp.Bs) : (strsC l).length = l.length := List.length_map ..
theorem tstr_cat (l m : List Sp.Bs) : strsC (l ++ m) = strsC l ++ strsC m := List.map_append ..
theorem cell_grown2 {w w' : World} {own : Option Nat} {g i : Nat} {u : Value} (hg : w.grownBy w' own) (hne : own ≠ some g) (c : w.cell? ⟨g, i, none⟩ = some u) : w'.cell? ⟨g, i, none⟩ = some u :=
  (World.cell?_of_block (hg.block g (World.block_lt_of_cell? w _ c) (fun e => hne e.symm))).trans c
set_option maxRecDepth 100000 in
set_option maxHeartbeats 4000000 in
theorem rtexts_step (m : List Sp.DE) (hm : Sp.GoodM m) (A : Option Addr) (cap : Nat) (d : Sp.Bs) (hd : Sp.Dir d) (s : Sp.T) (hok : Sp.Ok s) (hsz : Sp.sizeT s ≤ 128) (hsub : Sp.subs (Sp.toP m) (Sp.parts d) = Sp.entries s) (htl : (Sp.textsT s).length ≤ 600)
    (IH : ∀ i (h : i < s.kids.length) (w : World), EntsAt w A m → KeysAt w 0 → Calls Tryz.prog 82 #[.slice A m.length cap, .string (strOf (Sp.down d (s.kids[i]).1))] w fun e w' => ∃ v, e = .returned v ∧ w'.ownsRow w.heap.size 9 1 v (Sp.textsT (s.kids[i]).2).length (strsC (Sp.textsT (s.kids[i]).2)) ∧ Ext w w')
    (w : World) (hE : EntsAt w A m) (K : KeysAt w 0) :
    Calls Tryz.prog 82 #[.slice A m.length cap, .string (strOf d)] w fun e w' => ∃ v, e = .returned v ∧ w'.ownsRow w.heap.size 9 1 v (Sp.textsT s).length (strsC (Sp.textsT s)) ∧ Ext w w' := by
  have hnam : Sp.rnames d [] m = s.kids.map (·.1) := by
    rw [Sp.names_subs d hd m hm.1 [], hsub]
    cases s with
    | mk leaf k => exact Sp.namesE_entries leaf k hok.2.1 hok.2.2
  have dl51 := dir_len hd
  have RN := Lib.hid (rnode_calls m hm A cap 5 d s w (by omega) hd hok (by omega) hsub hE K)
  have NC := Lib.hid fun W (e : Ext w W) => rnames_own m A cap d W (hE.ext e) (Nat.le_trans hm.2 (by decide)) (Sp.good_len hm) (by omega)
  rw [hnam, List.length_map] at NC
  have hkl : s.kids.length ≤ 200 := by
    have h1 := Sp.kids_size s.kids (ok_rise hok).2
    have h2 := Sp.sizeT_n0 s
    omega
  have RB := Lib.hid (show ∀ A c B c' W, Vers W A s.leaf → Kids W B (Sp.nodeT s).2 → Calls Tryz.prog 148 #[nodeV A s.leaf.length c B s.kids.length c'] W fun e w' => e = .returned (.tuple #[.string (strOf (Sp.nbytes (Sp.nodeT s)).1), .int .i64 (Sp.nbytes (Sp.nodeT s)).2]) ∧ Ext W w' from fun A c B c' W hv hk => by
    have nl : (Sp.nodeT s).2.length = s.kids.length := by rw [nodeT_kids, List.length_map]
    have l0 : Sp.leaf s.leaf = 0 := by
      cases hs : s with
      | mk leaf kids =>
        rw [hs] at hok
        by_cases h0 : leaf = []
        · rw [h0]; rfl
        · exact hok.1 h0
    have := rnbytes_calls (Sp.nodeT s) A B c c' W (by rw [nodeT_leaf]; exact hv) hk (by rw [nodeT_leaf]; exact Nat.le_trans (Sp.leaf_ok l0).1 (by decide)) (by rw [nodeT_leaf]; exact fun v hv => ⟨Nat.le_trans (Sp.leaf_data l0 v hv) (by decide), Nat.le_trans ((Sp.leaf_fit fun _ => l0).2 v hv) (by decide)⟩) (by rw [nl]; omega)
    rw [nodeT_leaf, nl] at this
    exact this)
  have HIH := Lib.hid IH
  have HE := Lib.hid hE
  have KK := Lib.hid K
  have TE := Lib.hid (Sp.textsT_eq s)
  have TK := Lib.hid fun i h => Sp.textsL_take s.kids i h
  have TP := Lib.hid fun i => Sp.textsL_part s.kids i
  have NL := Lib.hid (show ∀ x ∈ s.kids, x.1.length ≤ 12 from fun x hx => Sp.name_len (Sp.kids_names s.kids (ok_rise hok).2 x hx))
  have htl2 : (Sp.textsL s.kids).length ≤ 600 := by rw [Sp.textsT_eq, List.length_cons] at htl; omega
  obtain ⟨b, hb⟩ : ∃ b, b = (Sp.nbytes (Sp.nodeT s)).1 := ⟨_, rfl⟩
  rw [← hb] at RB TE
  clear hnam IH hE K hsub hok hm hd hb htl hsz
  go_enter Tryz.func82, Tryz.ntmps82
  go_wp2_with fail
  refine RN.out.mono ?_
  rintro e w1 ⟨A1, c1, B1, c2, rfl, hv1, hk1, hb1⟩
  have E1 := Lib.hid hb1
  have RB1 := Lib.hid (RB.out A1 c1 B1 c2 w1 hv1 hk1)
  clear hv1 hk1 hb1 RB
  go_wp2_with fail
  refine RB1.out.mono ?_
  rintro e w2 ⟨rfl, hb2⟩
  have E2 := Lib.hid (E1.out.trans hb2)
  clear hb2 RB1
  go_upto_region 3 with fail
  obtain ⟨w3, hw3⟩ : ∃ w3, w3 = w2.alloc (.cells #[.string (strOf b)] 9) := ⟨_, rfl⟩
  have O3 := Lib.hid (show w3.ownsRow w.heap.size 9 1 (.slice (some ⟨w2.heap.size, 0, none⟩) 1 1) 1 (strsC [b]) by
    rw [hw3]
    exact ⟨rfl, .inr ⟨w2.heap.size, 1, _, rfl, E2.out.size, heap_alloc_new w2 _, Nat.le_refl _, by decide, rfl, rfl⟩⟩)
  have E3 := Lib.hid (E2.out.trans (show Ext w2 w3 by rw [hw3]; exact Ext.alloc _ _))
  have S3 := Lib.hid (show w2.heap.size < w3.heap.size by rw [hw3, World.size_alloc]; omega)
  rw [← hw3]
  clear hw3
  go_wp2_with fail
  refine (NC.out w3 E3.out).mono ?_
  rintro e w4 ⟨v4, rfl, hO4, hb4⟩
  obtain ⟨A4, c4, rfl, hc4⟩ := own_read hO4
  have N4 := Lib.hid hO4
  have NN := Lib.hid (show Nams w4 A4 (s.kids.map (·.1)) from hc4)
  have O4 := Lib.hid (own_ext O3.out hb4)
  have E4 := Lib.hid (E3.out.trans hb4)
  have hlen : (s.kids.map (·.1)).length = s.kids.length := List.length_map ..
  clear hO4 hc4 hb4 O3
  go_wp2
  go_loopw [7, 9] (fun v7 v9 wr => ∃ k : Nat, k ≤ s.kids.length ∧ v9 = .int .i64 k ∧ wr.ownsRow w.heap.size 9 1 v7 (1 + (Sp.textsL (s.kids.take k)).length) (strsC (b :: Sp.textsL (s.kids.take k))) ∧ (∀ g o, A4 = some ⟨g, o, none⟩ → v7.ownBlock ≠ some g ∧ g < wr.heap.size) ∧ Nams wr A4 (s.kids.map (·.1)) ∧ Ext w wr) (fun _ v9 _ => s.kids.length - (intOf v9).toNat)
  case atStart =>
    refine ⟨0, Nat.zero_le _, rfl, O4.out, fun g o hg => ?_, NN.out, E4.out⟩
    subst hg
    have h1 := N4.out.lt g rfl
    refine ⟨fun h => ?_, h1.2⟩
    have h2 : w2.heap.size = g := Option.some.inj h
    have := S3.out
    omega
  case round =>
    obtain ⟨k, hk, rfl, hO, hne, hN, hb⟩ := hrel
    have HB := Lib.hid hb
    have HO := Lib.hid hO
    have HN := Lib.hid hN
    have HNE := Lib.hid hne
    clear hO hne hN hb
    by_cases hlt : k < s.kids.length
    · obtain ⟨nb, no, rfl, hnm⟩ := HN.out.at (by simp; omega)
      have n0 := hnm k (by simpa using hlt)
      rw [List.getElem_map] at n0
      have IK := Lib.hid (HIH.out k hlt)
      have TKK := Lib.hid (TK.out k hlt)
      have tp := TP.out k
      have tp2 := TP.out (k + 1)
      rw [TKK.out, List.length_append] at tp2
      have xl := NL.out _ (List.getElem_mem hlt)
      obtain ⟨x, hxk⟩ : ∃ x, x = s.kids[k] := ⟨_, rfl⟩
      rw [← hxk] at n0 IK xl TKK tp2
      have b1 : (k : Int) < (s.kids.length : Int) := by omega
      have DC := Lib.hid (down_calls d x.1 wr (by omega) (by omega))
      obtain ⟨q, hq⟩ : ∃ q, q = Sp.textsL (s.kids.take k) := ⟨_, rfl⟩
      rw [← hq] at HO TKK tp tp2
      have X0 := Sp.textsT_pos x.2
      obtain ⟨y, hy⟩ : ∃ y, y = Sp.textsT x.2 := ⟨_, rfl⟩
      rw [← hy] at IK TKK tp2 X0
      obtain ⟨dn, hdn⟩ : ∃ dn, dn = Sp.down d x.1 := ⟨_, rfl⟩
      rw [← hdn] at DC IK
      clear hnm hxk hq hy hdn
      go_wp2_with fail
      refine DC.out.mono ?_
      rintro e w5 ⟨rfl, rfl⟩
      clear n0
      go_wp2_with fail
      refine (IK.out _ (HE.out.ext HB.out) (KK.out.ext HB.out)).mono ?_
      rintro e w6 ⟨v6, rfl, hO6, hb6⟩
      obtain ⟨A6, c6, rfl, hc6⟩ := own_read hO6
      have E6 := Lib.hid hb6
      have B6 := Lib.hid (HB.out.trans hb6)
      have N6 := Lib.hid (HN.out.ext hb6)
      obtain ⟨gx, ox, rfl, hcx⟩ := hc6 (by intro e; have := tstr_len y; rw [e] at this; simp at this; omega)
      have XC := Lib.hid hcx
      have nb6 := Lib.hid (show nb < wr.heap.size from (HNE.out nb no rfl).2)
      have ne6 := Lib.hid (show u7.ownBlock ≠ some nb from (HNE.out nb no rfl).1)
      have tokA : True := trivial
      clear hO6 hb6 hc6 hcx
      go_wp2_with (have _t := tokA; at_builtin; refine app_where appStr rfl _ _ rfl w.heap.size u7 (1 + q.length) _ rfl (own_ext HO.out E6.out) gx ox y.length c6 (strsC y) rfl X0 (by rw [tstr_len, Nat.mul_one]) XC.out (tstr_one y) (by omega) B6.out.size ?_; intro v7 w7 hown7 hgr7 hb7 hwh7; have O7 := Lib.hid hown7; have G7 := Lib.hid hgr7; have B7 := Lib.hid hb7; have W7 := Lib.hid hwh7; clear tokA _t hown7 hgr7 hb7 hwh7)
      have N7 := Lib.hid (show Nams w7 (some ⟨nb, no, none⟩) (s.kids.map (·.1)) from fun hn => by
        obtain ⟨g, o, hA, hc⟩ := N6.out hn
        cases hA
        exact ⟨nb, no, rfl, fun i u hu => cell_grown2 G7.out ne6.out (hc i u hu)⟩)
      go_roundw
      case rel =>
        refine ⟨k + 1, by omega, by go_num, ?_, fun g o hg => ?_, N7.out, Below.trans B6.out B7.out⟩
        · rw [TKK.out, List.length_append, ← List.cons_append, tstr_cat, ← Nat.add_assoc]
          exact O7.out
        · cases hg
          have h6 := E6.out.size
          have h7 := B7.out.size
          have h8 := nb6.out
          refine ⟨fun h => ?_, by omega⟩
          rcases W7.out with h9 | ⟨k9, h9, h10⟩
          · exact ne6.out (by rw [← h9]; exact h)
          · rw [h] at h10
            have : nb = k9 := Option.some.inj h10
            omega
      case measure => simp [intOf]; omega
    · obtain rfl : k = s.kids.length := by omega
      rw [List.take_length, ← TE.out] at HO
      have hl2 : 1 + (Sp.textsL s.kids).length = (Sp.textsT s).length := by rw [TE.out, List.length_cons]; omega
      rw [hl2] at HO
      clear hl2
      go_wp2
      go_ret
      exact ⟨_, rfl, HO.out, HB.out⟩
theorem rtexts_calls (m : List Sp.DE) (hm : Sp.GoodM m) (A : Option Addr) (cap : Nat) : ∀ (f : Nat) (d : Sp.Bs) (s : Sp.T) (w : World), 5 ≤ (Sp.parts d).length + f → Sp.Dir d → Sp.Ok s → Sp.sizeT s ≤ 128 → Sp.subs (Sp.toP m) (Sp.parts d) = Sp.entries s → (Sp.textsT s).length ≤ 600 → EntsAt w A m → KeysAt w 0 →
    Calls Tryz.prog 82 #[.slice A m.length cap, .string (strOf d)] w fun e w' => ∃ v, e = .returned v ∧ w'.ownsRow w.heap.size 9 1 v (Sp.textsT s).length (strsC (Sp.textsT s)) ∧ Ext w w'
  | 0, d, s, w, hf, _, _, _, _, _, _, _ => by have := Sp.parts_len d; omega
  | f + 1, d, s, w, hf, hd, hok, hsz, hsub, htl, hE, K =>
    rtexts_step m hm A cap d hd s hok hsz hsub htl (fun i h w2 hE2 K2 => by
      obtain ⟨k1, k2, k3, k4⟩ := Sp.kid_dir hm hd hok hsub i h
      refine rtexts_calls m hm A cap f (Sp.down d (s.kids[i]).1) (s.kids[i]).2 w2 ?_ k1 k4 ?_ k3 ?_ hE2 K2
      · rw [k2, List.length_append]
        show 5 ≤ (Sp.parts d).length + 1 + f
        omega
      · have h1 := Sp.kid_size s.kids (s.kids[i]).1 (s.kids[i]).2 (Sp.kid_at s.kids i h (ok_rise hok).1)
        have h2 := Sp.sizeT_n0 s
        omega
      · have h1 := Sp.textsL_part s.kids (i + 1)
        rw [Sp.textsL_take s.kids i h, List.length_append] at h1
        rw [Sp.textsT_eq, List.length_cons] at htl
        omega) w hE K
end Go.Proofs.YtmlfnidckfeebaaGreatDoor
