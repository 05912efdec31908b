/- Numbers as bytes are read as they were written, and written as they were read: plain. Nodes, plain: the bytes of a node tell the node. Trees, plain: trees of one root's digest are the same, or two unlike nodes of them have one digest; a tree's entries tell the tree. -/
import Derived.Test.YtmlfnidckfeebaaGreatDoorM39
import Derived.Test.YtmlfnidckfeebaaGreatDoorM05
import Derived.Test.YtmlfnidckfeebaaGreatDoorM26
import Derived.Test.YtmlfnidckfeebaaGreatDoorM32
import Derived.Test.YtmlfnidckfeebaaGreatDoorM34
namespace Go.Proofs.YtmlfnidckfeebaaGreatDoor
namespace Sp
theorem cput_form (n : Nat) : ∃ p b, cput n = p ++ [b] ∧ (∀ x ∈ p, 128 ≤ x.toNat) ∧ b.toNat < 128 ∧ num (cput n) = n ∧ (p ≠ [] → b ≠ 0) ∧ (b = 0 → n = 0 ∨ p ≠ []) := by
  induction n using Nat.strongRecOn with
  | _ n ih =>
    by_cases h : n < 128
    · refine ⟨[], UInt8.ofNat n, ?_, by simp, ?_, ?_, by simp, ?_⟩
      · rw [cput, if_pos h]; rfl
      · simp; omega
      · rw [cput, if_pos h]; simp [num]; omega
      · intro e
        have := congrArg UInt8.toNat e
        simp at this
        left; omega
    · obtain ⟨p, b, h1, h2, h3, h4, h5, h6⟩ := ih (n / 128) (by omega)
      have hc : cput n = UInt8.ofNat (n % 128 + 128) :: cput (n / 128) := by rw [cput, if_neg h]
      refine ⟨UInt8.ofNat (n % 128 + 128) :: p, b, by rw [hc, h1]; rfl, ?_, h3, ?_, ?_, fun _ => .inr (by simp)⟩
      · intro x hx
        rcases List.mem_cons.1 hx with rfl | hx
        · simp; omega
        · exact h2 x hx
      · rw [hc, num, h4]; simp; omega
      · intro _ e
        rcases h6 e with h0 | h0
        · omega
        · exact h5 h0 e
theorem cend_app : ∀ (p : List UInt8) (pre : List UInt8) (b : UInt8) (r : List UInt8) (f : Nat), (∀ x ∈ p, 128 ≤ x.toNat) → b.toNat < 128 → p.length < f → cend (pre ++ (p ++ b :: r)) f pre.length = some (pre.length + p.length)
  | [], pre, b, r, f, _, hb, hf => by
    obtain ⟨f, rfl⟩ : ∃ g, f = g + 1 := ⟨f - 1, by simp at hf; omega⟩
    rw [cend, List.getElem?_append_right (Nat.le_refl _), Nat.sub_self]
    simp [hb]
  | c :: p, pre, b, r, f, hp, hb, hf => by
    obtain ⟨f, rfl⟩ : ∃ g, f = g + 1 := ⟨f - 1, by simp at hf; omega⟩
    have hc : ¬ c.toNat < 128 := by have := hp c (by simp); omega
    have ih := cend_app p (pre ++ [c]) b r f (fun x hx => hp x (by simp [hx])) hb (by simp at hf; omega)
    rw [cend, List.getElem?_append_right (Nat.le_refl _), Nat.sub_self]
    simp only [List.cons_append, List.getElem?_cons_zero, hc, if_false]
    simp only [List.length_append, List.length_cons, List.length_nil, List.append_assoc, List.singleton_append] at ih
    simp only [List.length_cons]
    rw [Nat.zero_add] at ih
    rw [ih]
    congr 1
    omega
theorem take_cput (n : Nat) (r : List UInt8) (h : n ≤ 1073741824) : take (cput n ++ r) = (n, (cput n).length, 0) := by
  obtain ⟨p, b, h1, h2, h3, h4, h5, _⟩ := cput_form n
  have hlen := cput_len n h
  rw [h1, List.length_append] at hlen
  have hpl : p.length < 5 := by simp at hlen; omega
  have he := cend_app p [] b r 5 h2 h3 hpl
  simp only [List.nil_append, List.length_nil, Nat.zero_add] at he
  have hl : cput n ++ r = p ++ b :: r := by rw [h1]; simp
  have htk : (p ++ b :: r).take (p.length + 1) = cput n := by
    rw [h1, List.take_append, List.take_of_length_le (by omega)]; simp
  unfold take
  rw [hl, he]
  simp only []
  rw [if_neg, htk, h4, if_neg (by omega), h1]
  · simp
  · rintro ⟨e, h0⟩
    rw [List.getElem?_append_right (Nat.le_refl _), Nat.sub_self] at e
    simp at e
    exact h5 (by intro h; rw [h] at h0; simp at h0) e
theorem put_nat (n : Nat) (h : n ≤ 1073741824) : put (n : Int) = cput n := by unfold put; rw [if_pos (by omega)]; simp
end Sp
end Go.Proofs.YtmlfnidckfeebaaGreatDoor
namespace Go.Proofs.YtmlfnidckfeebaaGreatDoor
namespace Sp
/-- What is written tells what it was, whatever comes behind it. -/
structure Tells {α : Type} (f : α → W → W) (enc : α → Bs) (pre ok : α → Prop) : Prop where
  out : ∀ a x, pre a → (f a x).2 = 0 → x.2 = 0 ∧ (f a x).1 = x.1 ++ enc a ∧ ok a
  inj : ∀ a b r s, ok a → ok b → enc a ++ r = enc b ++ s → a = b ∧ r = s
theorem wput_out {b : Bool} {s : Bs} {x : W} (h : (wput b s x).2 = 0) : x.2 = 0 ∧ b = true ∧ (wput b s x).1 = x.1 ++ s := by
  unfold wput at h ⊢
  by_cases hx : x.2 = 0
  · rw [if_neg (by simpa using hx)] at h ⊢
    cases b with
    | true => exact ⟨hx, rfl, rfl⟩
    | false => exact absurd (show (2 : Int) = 0 from h) (by decide)
  · rw [if_pos hx] at h; exact absurd h hx
theorem tells_num : Tells wnum put (fun _ => True) (fun n => 0 ≤ n ∧ n ≤ 1073741824) where
  out n x _ h := by
    obtain ⟨h1, h2, h3⟩ := wput_out h
    exact ⟨h1, h3, by simpa using h2⟩
  inj a b r s ha hb h := by
    obtain ⟨n, rfl⟩ := Int.eq_ofNat_of_zero_le ha.1
    obtain ⟨m, rfl⟩ := Int.eq_ofNat_of_zero_le hb.1
    rw [put_nat n (by omega), put_nat m (by omega)] at h
    have h1 := take_cput n r (by omega)
    have h2 := take_cput m s (by omega)
    rw [h] at h1
    have h4 : n = m := congrArg Prod.fst (h1.symm.trans h2)
    subst h4
    exact ⟨rfl, List.append_cancel_left h⟩
theorem tells_text : Tells wtext (fun s => put s.length ++ s) (fun _ => True) (fun s => s.length ≤ 65536) where
  out s x _ h := by
    obtain ⟨h1, h2, h3⟩ := wput_out h
    exact ⟨h1, h3, by simpa using h2⟩
  inj a b r s ha hb h := by
    rw [List.append_assoc, List.append_assoc] at h
    obtain ⟨h1, h2⟩ := tells_num.inj _ _ _ _ ⟨by omega, by omega⟩ ⟨by omega, by omega⟩ h
    exact List.append_inj h2 (by omega)
theorem tells_flag : Tells wflag (fun b => [if b then 1 else 0]) (fun _ => True) (fun _ => True) where
  out s x _ h := by
    obtain ⟨h1, h2, h3⟩ := wput_out h
    exact ⟨h1, h3, trivial⟩
  inj a b r s ha hb h := by
    rw [List.singleton_append, List.singleton_append, List.cons.injEq] at h
    refine ⟨?_, h.2⟩
    have h1 := h.1
    cases a <;> cases b <;> first | rfl | exact absurd h1 (by decide)
theorem tells_digest : Tells wdigest (fun d => d) (fun d => d.length = 32) (fun d => d.length = 32) where
  out s x p h := by
    obtain ⟨h1, h2, h3⟩ := wput_out h
    exact ⟨h1, h3, p⟩
  inj a b r s ha hb h := List.append_inj h (by rw [ha, hb])
theorem Tells.seq {α β : Type} {f : α → W → W} {f' : β → W → W} {enc : α → Bs} {enc' : β → Bs} {pre ok : α → Prop} {pre' ok' : β → Prop} (h : Tells f enc pre ok) (h' : Tells f' enc' pre' ok') :
    Tells (fun (a : α × β) x => f' a.2 (f a.1 x)) (fun a => enc a.1 ++ enc' a.2) (fun a => pre a.1 ∧ pre' a.2) (fun a => ok a.1 ∧ ok' a.2) where
  out a x p e := by
    obtain ⟨h1, h2, h3⟩ := h'.out _ _ p.2 e
    obtain ⟨g1, g2, g3⟩ := h.out _ _ p.1 h1
    exact ⟨g1, by rw [h2, g2, List.append_assoc], g3, h3⟩
  inj a b r s ha hb e := by
    rw [List.append_assoc, List.append_assoc] at e
    obtain ⟨h1, h2⟩ := h.inj _ _ _ _ ha.1 hb.1 e
    obtain ⟨h3, h4⟩ := h'.inj _ _ _ _ ha.2 hb.2 h2
    exact ⟨Prod.ext h1 h3, h4⟩
theorem Tells.map {α β : Type} {f : α → W → W} {enc : α → Bs} {pre ok : α → Prop} (h : Tells f enc pre ok) (g : β → α) (hg : ∀ b c, g b = g c → b = c) : Tells (fun b => f (g b)) (fun b => enc (g b)) (fun b => pre (g b)) (fun b => ok (g b)) where
  out a x p e := h.out _ _ p e
  inj a b r s ha hb e := by
    obtain ⟨h1, h2⟩ := h.inj _ _ _ _ ha hb e
    exact ⟨hg _ _ h1, h2⟩
theorem wfail_no {e : Int} (he : e ≠ 0) (x : W) : (wfail e x).2 ≠ 0 := by
  unfold wfail
  by_cases h : x.2 = 0
  · rw [if_pos h]; exact he
  · rw [if_neg h]; exact h
theorem Tells.ifs {α : Type} {f : α → W → W} {enc : α → Bs} {pre ok : α → Prop} (h : Tells f enc pre ok) (c : α → Int) : Tells (fun a x => if c a ≠ 0 then wfail (c a) x else f a x) enc pre ok where
  out a x p e := by
    by_cases hc : c a = 0
    · have : ¬ c a ≠ 0 := fun h => h hc
      simp only [if_neg this] at e ⊢
      exact h.out _ _ p e
    · simp only [if_pos hc] at e
      exact absurd e (wfail_no hc x)
  inj := h.inj
theorem Tells.fold {α : Type} {f : α → W → W} {enc : α → Bs} {pre ok : α → Prop} (h : Tells f enc pre ok) : ∀ (l : List α) (x : W), (∀ a ∈ l, pre a) → (l.foldl (fun x a => f a x) x).2 = 0 → x.2 = 0 ∧ (l.foldl (fun x a => f a x) x).1 = x.1 ++ l.flatMap enc ∧ ∀ a ∈ l, ok a
  | [], x, _, e => ⟨e, by simp, fun _ h => by cases h⟩
  | a :: r, x, p, e => by
    rw [List.foldl_cons] at e ⊢
    obtain ⟨h1, h2, h3⟩ := Tells.fold h r (f a x) (fun b hb => p b (List.mem_cons_of_mem _ hb)) e
    obtain ⟨g1, g2, g3⟩ := h.out a x (p a (List.mem_cons_self ..)) h1
    refine ⟨g1, by rw [h2, g2, List.flatMap_cons, List.append_assoc], fun b hb => ?_⟩
    rcases List.mem_cons.1 hb with rfl | hb
    · exact g3
    · exact h3 b hb
theorem Tells.folds {α : Type} {f : α → W → W} {enc : α → Bs} {pre ok : α → Prop} (h : Tells f enc pre ok) : ∀ (l m : List α) (r s : Bs), l.length = m.length → (∀ a ∈ l, ok a) → (∀ a ∈ m, ok a) → l.flatMap enc ++ r = m.flatMap enc ++ s → l = m ∧ r = s
  | [], [], r, s, _, _, _, e => ⟨rfl, by simpa using e⟩
  | [], _ :: _, _, _, hl, _, _, _ => by cases hl
  | _ :: _, [], _, _, hl, _, _, _ => by cases hl
  | a :: l, b :: m, r, s, hl, ha, hb, e => by
    rw [List.flatMap_cons, List.flatMap_cons, List.append_assoc, List.append_assoc] at e
    obtain ⟨h1, h2⟩ := h.inj _ _ _ _ (ha a (List.mem_cons_self ..)) (hb b (List.mem_cons_self ..)) e
    obtain ⟨h3, h4⟩ := Tells.folds h l m r s (by simpa using hl) (fun x hx => ha x (List.mem_cons_of_mem _ hx)) (fun x hx => hb x (List.mem_cons_of_mem _ hx)) h2
    exact ⟨by rw [h1, h3], h4⟩
theorem Tells.list {α : Type} {f : α → W → W} {enc : α → Bs} {pre ok : α → Prop} (h : Tells f enc pre ok) :
    Tells (fun (l : List α) x => l.foldl (fun x a => f a x) (wnum l.length x)) (fun l => put l.length ++ l.flatMap enc) (fun l => ∀ a ∈ l, pre a) (fun l => (0 ≤ (l.length : Int) ∧ (l.length : Int) ≤ 1073741824) ∧ ∀ a ∈ l, ok a) where
  out l x p e := by
    obtain ⟨h1, h2, h3⟩ := h.fold l _ p e
    obtain ⟨g1, g2, g3⟩ := tells_num.out _ _ trivial h1
    exact ⟨g1, by rw [h2, g2, List.append_assoc], g3, h3⟩
  inj a b r s ha hb e := by
    rw [List.append_assoc, List.append_assoc] at e
    obtain ⟨h1, h2⟩ := tells_num.inj _ _ _ _ ha.1 hb.1 e
    exact h.folds _ _ _ _ (by omega) ha.2 hb.2 h2
def verPair (v : Ver) : ((Dot × List Dot) × Bool) × Bs := (((v.dot, v.past), v.dead), v.data)
theorem verPair_inj (v u : Ver) (h : verPair v = verPair u) : v = u := by
  cases v; cases u
  simp only [verPair, Prod.mk.injEq] at h
  obtain ⟨⟨⟨rfl, rfl⟩, rfl⟩, rfl⟩ := h
  rfl
theorem Tells.less {α : Type} {f : α → W → W} {enc : α → Bs} {pre ok : α → Prop} (h : Tells f enc pre ok) (pre' : α → Prop) (hp : ∀ a, pre' a → pre a) : ∃ enc ok, Tells f enc pre' ok :=
  ⟨enc, ok, ⟨fun a x p e => h.out a x (hp a p) e, h.inj⟩⟩
theorem tells_dot : ∃ enc ok, Tells wdot enc (fun _ => True) ok := (tells_num.seq tells_num).less _ fun _ _ => ⟨trivial, trivial⟩
theorem tells_vec : ∃ enc ok, Tells wvec enc (fun _ => True) ok := by
  obtain ⟨enc, ok, h⟩ := tells_dot
  exact (h.list.ifs vcheck).less _ fun _ _ _ _ => trivial
theorem tells_ver : ∃ enc ok, Tells wver enc (fun _ => True) ok := by
  obtain ⟨enc, ok, h⟩ := tells_dot
  obtain ⟨enc', ok', h'⟩ := tells_vec
  exact ((((h.seq h').seq tells_flag).seq tells_text).map verPair verPair_inj).less _ fun _ _ => ⟨⟨⟨trivial, trivial⟩, trivial⟩, trivial⟩
theorem tells_leaf : ∃ enc ok, Tells wleaf enc (fun _ => True) ok := by
  obtain ⟨enc, ok, h⟩ := tells_ver
  exact (h.list.ifs leaf).less _ fun _ _ _ _ => trivial
theorem tells_kid : ∃ enc ok, Tells wkid enc (fun k => k.2.length = 32) ok := (tells_text.seq tells_digest).less _ fun _ h => ⟨trivial, h⟩
theorem tells_node : ∃ enc ok, Tells (fun (n : Node) x => wkids n.2 (wnum n.2.length (wleaf n.1 x))) enc (fun n => ∀ k ∈ n.2, k.2.length = 32) ok := by
  obtain ⟨enc, ok, h⟩ := tells_leaf
  obtain ⟨enc', ok', h'⟩ := tells_kid
  exact (h.seq h'.list).less _ fun _ h => ⟨trivial, h⟩
theorem nbytes_out {n : Node} (h : (nbytes n).2 = 0) : (nbytes n).1 = (wnode n).1 ∧ (wnode n).2 = 0 := by
  unfold nbytes at h ⊢
  by_cases hc : ncheck n = 0
  · have hc' : ¬ ncheck n ≠ 0 := fun h => h hc
    rw [if_neg hc'] at h ⊢
    unfold wdone at h ⊢
    by_cases hw : (wnode n).2 = 0
    · rw [if_pos hw]; exact ⟨rfl, hw⟩
    · rw [if_neg hw] at h; exact absurd h hw
  · rw [if_pos hc] at h; exact absurd h hc
/-- The bytes of a node tell the node. -/
theorem nbytes_inj {n m : Node} (hn : (nbytes n).2 = 0) (hm : (nbytes m).2 = 0) (kn : ∀ k ∈ n.2, k.2.length = 32) (km : ∀ k ∈ m.2, k.2.length = 32) (h : (nbytes n).1 = (nbytes m).1) : n = m := by
  obtain ⟨n1, n2⟩ := nbytes_out hn
  obtain ⟨m1, m2⟩ := nbytes_out hm
  rw [n1, m1] at h
  obtain ⟨enc, ok, T⟩ := tells_node
  obtain ⟨_, a2, a3⟩ := T.out n ([], 0) kn n2
  obtain ⟨_, b2, b3⟩ := T.out m ([], 0) km m2
  have e : (wnode n).1 = (wnode m).1 := h
  unfold wnode at e
  simp only at a2 b2
  rw [a2, b2] at e
  refine (T.inj n m [] [] a3 b3 ?_).1
  simpa using e
end Sp
end Go.Proofs.YtmlfnidckfeebaaGreatDoor
namespace Go.Proofs.YtmlfnidckfeebaaGreatDoor
open Go.RowKit
namespace Sp
/-! What may be written is written. -/
theorem wput_ok {s : Bs} {x : W} (h : x.2 = 0) : (wput true s x).2 = 0 := by
  unfold wput
  rw [if_neg (by simpa using h)]; rfl
theorem wnum_ok {n : Int} {x : W} (h : x.2 = 0) (h0 : 0 ≤ n) (h1 : n ≤ 1073741824) : (wnum n x).2 = 0 := by
  unfold wnum
  rw [decide_eq_true ⟨h0, h1⟩]
  exact wput_ok h
theorem wtext_ok {s : Bs} {x : W} (h : x.2 = 0) (h0 : s.length ≤ 65536) : (wtext s x).2 = 0 := by
  unfold wtext
  rw [decide_eq_true h0]
  exact wput_ok h
theorem wdots_ok : ∀ (l : List Dot) (x : W), x.2 = 0 → (∀ d ∈ l, dot d = 0) → (wdots l x).2 = 0
  | [], _, h, _ => h
  | d :: r, x, h, hd => by
    have h1 := dot_ok.1 (hd d (List.mem_cons_self ..))
    exact wdots_ok r (wdot d x) (wnum_ok (wnum_ok h h1.1 (by omega)) (by omega) (by omega)) fun y hy => hd y (List.mem_cons_of_mem _ hy)
theorem wvec_ok {v : List Dot} {x : W} (h : x.2 = 0) (hv : vcheck v = 0) : (wvec v x).2 = 0 := by
  unfold wvec
  rw [if_neg (by simpa using hv)]
  have hl := vcheck_len hv
  refine wdots_ok v _ (wnum_ok h (by omega) (by omega)) fun d hd => ?_
  exact (((vgo_ok v (-1)).1 hv).1 d hd).1
theorem wver_ok {v : Ver} {x : W} (h : x.2 = 0) (hv : vercheck v = 0) : (wver v x).2 = 0 := by
  obtain ⟨h1, h2, _, h4, _⟩ := vercheck_ok hv
  have h5 := dot_ok.1 h1
  unfold wver
  exact wtext_ok (wput_ok (wvec_ok (wnum_ok (wnum_ok h h5.1 (by omega)) (by omega) (by omega)) h2)) (by omega)
theorem wvers_ok : ∀ (l : List Ver) (x : W), x.2 = 0 → (∀ v ∈ l, vercheck v = 0) → (wvers l x).2 = 0
  | [], _, h, _ => h
  | v :: r, x, h, hv => wvers_ok r (wver v x) (wver_ok h (hv v (List.mem_cons_self ..))) fun y hy => hv y (List.mem_cons_of_mem _ hy)
theorem wleaf_ok {l : List Ver} {x : W} (h : x.2 = 0) (hl : leaf l = 0) : (wleaf l x).2 = 0 := by
  unfold wleaf
  rw [if_neg (by simpa using hl)]
  have h1 := leaf_ok hl
  exact wvers_ok l _ (wnum_ok h (by omega) (by omega)) (lgo_vers l none h1.2.1)
theorem wkids_ok : ∀ (l : List Kid) (x : W), x.2 = 0 → (∀ k ∈ l, k.1.length ≤ 65536) → (wkids l x).2 = 0
  | [], _, h, _ => h
  | k :: r, x, h, hk => wkids_ok r (wkid k x) (wput_ok (wtext_ok h (hk k (List.mem_cons_self ..)))) fun y hy => hk y (List.mem_cons_of_mem _ hy)
theorem kgo_zero : ∀ (l : List Kid) (p : Option Bs), (∀ k ∈ l, name k.1 = true) → (l.map (·.1)).Pairwise (fun a b => Op.bytesLess a b = true) → (∀ q, p = some q → ∀ k ∈ l, Op.bytesLess q k.1 = true) → kgo p l = 0
  | [], _, _, _, _ => rfl
  | k :: r, p, hn, hr, hp => by
    rw [List.map_cons, List.pairwise_cons] at hr
    rw [kgo, if_neg (by rw [hn k (List.mem_cons_self ..)]; simp), if_neg ?_]
    · exact kgo_zero r (some k.1) (fun x hx => hn x (List.mem_cons_of_mem _ hx)) hr.2 fun q hq x hx => by
        obtain rfl := Option.some.inj hq
        exact hr.1 x.1 (List.mem_map.2 ⟨x, hx, rfl⟩)
    · cases p with
      | none => simp
      | some q =>
        have h1 := hp q rfl k (List.mem_cons_self ..)
        intro h
        simp only [Option.any_some, le, Bool.or_eq_true, beq_iff_eq] at h
        rcases h with h | h
        · have := less_trans h1 h
          rw [less_irr] at this; cases this
        · rw [h, less_irr] at h1; cases h1
theorem okL_names : ∀ (k : List (Bs × T)), OkL k → ∀ x ∈ k, name x.1 = true ∧ Ok x.2 ∧ entries x.2 ≠ []
  | (n, t) :: r, h, x, hx => by
    rcases List.mem_cons.1 hx with rfl | hx
    · exact ⟨h.1, h.2.2.1, h.2.1⟩
    · exact okL_names r h.2.2.2 x hx
theorem kids_few : ∀ (k : List (Bs × T)), OkL k → k.length ≤ sizeL k
  | [], _ => Nat.le_refl _
  | (n, t) :: r, h => by
    have h1 := kids_few r h.2.2.2
    have h2 : 0 < sizeT t := by rw [sizeT_len]; exact List.length_pos_iff.2 h.2.1
    rw [sizeL, List.length_cons]; omega
theorem kidsT_eq : ∀ (k : List (Bs × T)), kidsT k = k.map fun x => (x.1, nsum (nodeT x.2))
  | [] => rfl
  | (n, t) :: r => by rw [kidsT, kidsT_eq r]; rfl
/-- The node of a tree has bytes. -/
theorem node_writes : ∀ t : T, Ok t → sizeT t ≤ 128 → (nbytes (nodeT t)).2 = 0
  | .mk lf k, h, hs => by
    obtain ⟨h1, h2, h3⟩ := h
    have hl : leaf lf = 0 := by
      by_cases h0 : lf = []
      · rw [h0]; rfl
      · exact h1 h0
    have hk := kids_few k h3
    rw [sizeT] at hs
    have hn : ∀ x ∈ kidsT k, name x.1 = true := fun x hx => by
      rw [kidsT_eq] at hx
      obtain ⟨y, hy, rfl⟩ := List.mem_map.1 hx
      exact (okL_names k h3 y hy).1
    have hm : (kidsT k).map (·.1) = k.map (·.1) := by rw [kidsT_eq, List.map_map]; rfl
    have hc : ncheck (nodeT (.mk lf k)) = 0 := by
      unfold ncheck
      rw [nodeT, if_neg (by simpa using hl)]
      unfold kcheck
      rw [if_neg (by simp only [kidsT_eq, List.length_map]; omega)]
      exact kgo_zero _ none hn (by rw [hm]; exact h2) fun q hq => by cases hq
    unfold nbytes
    rw [if_neg (by simpa using hc)]
    have : (wnode (nodeT (.mk lf k))).2 = 0 := by
      unfold wnode
      rw [nodeT]
      refine wkids_ok _ _ (wnum_ok (wleaf_ok rfl hl) (by omega) ?_) fun x hx => Nat.le_trans (name_len (hn x hx)) (by decide)
      simp only [kidsT_eq, List.length_map]
      omega
    unfold wdone
    rw [if_pos this]
mutual
/-- The bytes of all nodes of a tree. -/
def textsT : T → List Bs
  | .mk lf k => (nbytes (nodeT (.mk lf k))).1 :: textsL k
def textsL : List (Bs × T) → List Bs
  | [] => []
  | (_, t) :: r => textsT t ++ textsL r
end
theorem kidsT_32 (k : List (Bs × T)) : ∀ x ∈ kidsT k, x.2.length = 32 := fun x hx => by
  rw [kidsT_eq] at hx
  obtain ⟨y, _, rfl⟩ := List.mem_map.1 hx
  exact nsum_len _
mutual
/-- Trees of one digest are the same, where unlike bytes of their nodes have unlike digests. -/
theorem tree_eq : ∀ (t u : T), Ok t → Ok u → sizeT t ≤ 128 → sizeT u ≤ 128 → (∀ x ∈ textsT t, ∀ y ∈ textsT u, sha x = sha y → x = y) → nsum (nodeT t) = nsum (nodeT u) → t = u
  | .mk lf k, .mk lf' k', ht, hu, st, su, hc, h => by
    have wt := node_writes _ ht st
    have wu := node_writes _ hu su
    unfold nsum at h
    rw [if_neg (by simpa using wt), if_neg (by simpa using wu)] at h
    have hb := hc _ (by rw [textsT]; exact List.mem_cons_self ..) _ (by rw [textsT]; exact List.mem_cons_self ..) h
    have hn := nbytes_inj wt wu (by rw [nodeT]; exact kidsT_32 k) (by rw [nodeT]; exact kidsT_32 k') hb
    rw [nodeT, nodeT, Prod.mk.injEq] at hn
    rw [hn.1, kids_eq k k' ht.2.2 hu.2.2 (by rw [sizeT] at st; omega) (by rw [sizeT] at su; omega) (fun x hx y hy => hc x (by rw [textsT]; exact List.mem_cons_of_mem _ hx) y (by rw [textsT]; exact List.mem_cons_of_mem _ hy)) hn.2]
theorem kids_eq : ∀ (k k' : List (Bs × T)), OkL k → OkL k' → sizeL k ≤ 128 → sizeL k' ≤ 128 → (∀ x ∈ textsL k, ∀ y ∈ textsL k', sha x = sha y → x = y) → kidsT k = kidsT k' → k = k'
  | [], [], _, _, _, _, _, _ => rfl
  | [], (_, _) :: _, _, _, _, _, _, h => by rw [kidsT, kidsT] at h; cases h
  | (_, _) :: _, [], _, _, _, _, _, h => by rw [kidsT, kidsT] at h; cases h
  | (n, t) :: r, (n', t') :: r', hk, hk', sk, sk', hc, h => by
    rw [kidsT, kidsT, List.cons.injEq, Prod.mk.injEq] at h
    obtain ⟨⟨rfl, h1⟩, h2⟩ := h
    rw [sizeL] at sk sk'
    rw [tree_eq t t' hk.2.2.1 hk'.2.2.1 (by omega) (by omega) (fun x hx y hy => hc x (by rw [textsL]; exact List.mem_append_left _ hx) y (by rw [textsL]; exact List.mem_append_left _ hy)) h1,
      kids_eq r r' hk.2.2.2 hk'.2.2.2 (by omega) (by omega) (fun x hx y hy => hc x (by rw [textsL]; exact List.mem_append_right _ hx) y (by rw [textsL]; exact List.mem_append_right _ hy)) h2]
end
/-- Have two unlike texts one digest? -/
def clashS (l : List Bs) : Bool := (List.range l.length).any fun i => (List.range i).any fun k => decide (sha (l.getD k []) = sha (l.getD i [])) && decide (l.getD k [] ≠ l.getD i [])
theorem clash_no {A B : List Bs} (h : clashS (A ++ B) = false) : ∀ x ∈ A, ∀ y ∈ B, sha x = sha y → x = y := by
  intro x hx y hy hs
  apply Decidable.byContradiction
  intro hne
  obtain ⟨i, hi, rfl⟩ := List.getElem_of_mem hx
  obtain ⟨j, hj, rfl⟩ := List.getElem_of_mem hy
  have : clashS (A ++ B) = true := by
    unfold clashS
    refine List.any_eq_true.2 ⟨A.length + j, List.mem_range.2 (by rw [List.length_append]; omega), List.any_eq_true.2 ⟨i, List.mem_range.2 (by omega), ?_⟩⟩
    have e1 : (A ++ B).getD i [] = A[i] := by rw [List.getD_eq_getElem?_getD, List.getElem?_append_left hi, List.getElem?_eq_getElem hi]; rfl
    have e2 : (A ++ B).getD (A.length + j) [] = B[j] := by rw [List.getD_eq_getElem?_getD, List.getElem?_append_right (by omega), Nat.add_sub_cancel_left, List.getElem?_eq_getElem hj]; rfl
    rw [e1, e2]
    simp only [Bool.and_eq_true, decide_eq_true_eq]
    exact ⟨hs, hne⟩
  rw [this] at h
  cases h
end Sp
end Go.Proofs.YtmlfnidckfeebaaGreatDoor
