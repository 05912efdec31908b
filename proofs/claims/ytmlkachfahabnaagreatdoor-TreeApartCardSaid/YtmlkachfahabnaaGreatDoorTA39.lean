/- Walks: the document's node of a directory is the tree's. What a reader takes: plain. Numbers as bytes are read as they were written, and written as they were read: plain. Nodes, plain: the bytes of a node tell the node. Walks: whether two lists of entries are the same: the document's. -/
import Derived.Test.YtmlkachfahabnaaGreatDoorTA38
import Derived.Test.YtmlkachfahabnaaGreatDoorTA02
import Derived.Test.YtmlkachfahabnaaGreatDoorTA05
import Derived.Test.YtmlkachfahabnaaGreatDoorTA37
import Derived.Test.YtmlkachfahabnaaGreatDoorTA10
namespace Go.Proofs.YtmlkachfahabnaaGreatDoor
open Go.RowKit Go.Shelf
theorem dir_len {d : Sp.Bs} (h : Sp.Dir d) : d.length ≤ 51 := by
  rcases h with rfl | h
  · exact Nat.zero_le _
  · exact (Sp.check_parts h).2.1
theorem rnode_calls (m : List Sp.DE) (hm : Sp.GoodM m) (A : Option Addr) (cap : Nat) : ∀ (f : Nat) (d : Sp.Bs) (s : Sp.T) (w : World), 5 ≤ (Sp.parts d).length + f → Sp.Dir d → Sp.Ok s → Sp.sizeT s ≤ 200 → Sp.subs (Sp.toP m) (Sp.parts d) = Sp.entries s → EntsAt w A m → KeysAt w 0 →
    Calls Tryz.prog 30 #[.slice A m.length cap, .string (strOf d)] w fun e w' => ∃ A2 c2 B2 c3, e = .returned (nodeV A2 s.leaf.length c2 B2 s.kids.length c3) ∧ Vers w' A2 s.leaf ∧ Kids w' B2 (Sp.nodeT s).2 ∧ Ext w w'
  | 0, d, s, w, hf, _, _, _, _, _, _ => by have := Sp.parts_len d; omega
  | f + 1, d, s, w, hf, hd, hok, hsz, hsub, hE, K =>
    rnode_step m hm A cap d hd (Nat.le_trans (dir_len hd) (by decide)) s hok hsz hsub (fun i h w2 hE2 K2 => by
      obtain ⟨k1, k2, k3, k4⟩ := Sp.kid_dir hm hd hok hsub i h
      refine rnode_calls m hm A cap f (Sp.down d (s.kids[i]).1) (s.kids[i]).2 w2 ?_ k1 k4 ?_ k3 hE2 K2
      · rw [k2, List.length_append]
        show 5 ≤ (Sp.parts d).length + 1 + f
        omega
      · have h1 := Sp.kid_size s.kids (s.kids[i]).1 (s.kids[i]).2 (Sp.kid_at s.kids i h (ok_rise hok).1)
        have h2 := Sp.sizeT_n0 s
        omega) w hE K
end Go.Proofs.YtmlkachfahabnaaGreatDoor
namespace Go.Proofs.YtmlkachfahabnaaGreatDoor
namespace Sp
/-- A reader is what is left, and what is wrong. -/
abbrev R := List UInt8 × Int
theorem take_zero {l : List UInt8} (h : (take l).2.2 ≠ 0) : (take l).1 = 0 ∧ (take l).2.1 = 0 := by
  unfold take at *
  cases hc : cend l 5 0 with
  | none => simp only []; split <;> simp
  | some i =>
    rw [hc] at h
    simp only [] at h ⊢
    split
    · simp
    · split
      · simp
      · rename_i h1 h2; rw [if_neg h1, if_neg h2] at h; exact absurd rfl h
end Sp
end Go.Proofs.YtmlkachfahabnaaGreatDoor
namespace Go.Proofs.YtmlkachfahabnaaGreatDoor
namespace Sp
theorem cput_form (n : Nat) : ∃ p b, cput n = p ++ [b] ∧ (∀ x ∈ p, 128 ≤ x.toNat) ∧ b.toNat < 128 ∧ num (cput n) = n ∧ (p ≠ [] → b ≠ 0) ∧ (b = 0 → n = 0 ∨ p ≠ []) := by
  induction n using Nat.strongRecOn with
  | _ n ih =>
    by_cases h : n < 128
    · refine ⟨[], UInt8.ofNat n, ?_, by simp, ?_, ?_, by simp, ?_⟩
      · rw [cput, if_pos h]; rfl
      · simp; omega
      · rw [cput, if_pos h]; simp [num]; omega
      · intro e
        have := congrArg UInt8.toNat e
        simp at this
        left; omega
    · obtain ⟨p, b, h1, h2, h3, h4, h5, h6⟩ := ih (n / 128) (by omega)
      have hc : cput n = UInt8.ofNat (n % 128 + 128) :: cput (n / 128) := by rw [cput, if_neg h]
      refine ⟨UInt8.ofNat (n % 128 + 128) :: p, b, by rw [hc, h1]; rfl, ?_, h3, ?_, ?_, fun _ => .inr (by simp)⟩
      · intro x hx
        rcases List.mem_cons.1 hx with rfl | hx
        · simp; omega
        · exact h2 x hx
      · rw [hc, num, h4]; simp; omega
      · intro _ e
        rcases h6 e with h0 | h0
        · omega
        · exact h5 h0 e
theorem cend_app : ∀ (p : List UInt8) (pre : List UInt8) (b : UInt8) (r : List UInt8) (f : Nat), (∀ x ∈ p, 128 ≤ x.toNat) → b.toNat < 128 → p.length < f → cend (pre ++ (p ++ b :: r)) f pre.length = some (pre.length + p.length)
  | [], pre, b, r, f, _, hb, hf => by
    obtain ⟨f, rfl⟩ : ∃ g, f = g + 1 := ⟨f - 1, by simp at hf; omega⟩
    rw [cend, List.getElem?_append_right (Nat.le_refl _), Nat.sub_self]
    simp [hb]
  | c :: p, pre, b, r, f, hp, hb, hf => by
    obtain ⟨f, rfl⟩ : ∃ g, f = g + 1 := ⟨f - 1, by simp at hf; omega⟩
    have hc : ¬ c.toNat < 128 := by have := hp c (by simp); omega
    have ih := cend_app p (pre ++ [c]) b r f (fun x hx => hp x (by simp [hx])) hb (by simp at hf; omega)
    rw [cend, List.getElem?_append_right (Nat.le_refl _), Nat.sub_self]
    simp only [List.cons_append, List.getElem?_cons_zero, hc, if_false]
    simp only [List.length_append, List.length_cons, List.length_nil, List.append_assoc, List.singleton_append] at ih
    simp only [List.length_cons]
    rw [Nat.zero_add] at ih
    rw [ih]
    congr 1
    omega
theorem take_cput (n : Nat) (r : List UInt8) (h : n ≤ 1073741824) : take (cput n ++ r) = (n, (cput n).length, 0) := by
  obtain ⟨p, b, h1, h2, h3, h4, h5, _⟩ := cput_form n
  have hlen := cput_len n h
  rw [h1, List.length_append] at hlen
  have hpl : p.length < 5 := by simp at hlen; omega
  have he := cend_app p [] b r 5 h2 h3 hpl
  simp only [List.nil_append, List.length_nil, Nat.zero_add] at he
  have hl : cput n ++ r = p ++ b :: r := by rw [h1]; simp
  have htk : (p ++ b :: r).take (p.length + 1) = cput n := by
    rw [h1, List.take_append, List.take_of_length_le (by omega)]; simp
  unfold take
  rw [hl, he]
  simp only []
  rw [if_neg, htk, h4, if_neg (by omega), h1]
  · simp
  · rintro ⟨e, h0⟩
    rw [List.getElem?_append_right (Nat.le_refl _), Nat.sub_self] at e
    simp at e
    exact h5 (by intro h; rw [h] at h0; simp at h0) e
theorem put_nat (n : Nat) (h : n ≤ 1073741824) : put (n : Int) = cput n := by unfold put; rw [if_pos (by omega)]; simp
end Sp
end Go.Proofs.YtmlkachfahabnaaGreatDoor
namespace Go.Proofs.YtmlkachfahabnaaGreatDoor
namespace Sp
/-- What is written tells what it was, whatever comes behind it. -/
structure Tells {α : Type} (f : α → W → W) (enc : α → Bs) (pre ok : α → Prop) : Prop where
  out : ∀ a x, pre a → (f a x).2 = 0 → x.2 = 0 ∧ (f a x).1 = x.1 ++ enc a ∧ ok a
  inj : ∀ a b r s, ok a → ok b → enc a ++ r = enc b ++ s → a = b ∧ r = s
theorem wput_out {b : Bool} {s : Bs} {x : W} (h : (wput b s x).2 = 0) : x.2 = 0 ∧ b = true ∧ (wput b s x).1 = x.1 ++ s := by
  unfold wput at h ⊢
  by_cases hx : x.2 = 0
  · rw [if_neg (by simpa using hx)] at h ⊢
    cases b with
    | true => exact ⟨hx, rfl, rfl⟩
    | false => exact absurd (show (2 : Int) = 0 from h) (by decide)
  · rw [if_pos hx] at h; exact absurd h hx
theorem tells_num : Tells wnum put (fun _ => True) (fun n => 0 ≤ n ∧ n ≤ 1073741824) where
  out n x _ h := by
    obtain ⟨h1, h2, h3⟩ := wput_out h
    exact ⟨h1, h3, by simpa using h2⟩
  inj a b r s ha hb h := by
    obtain ⟨n, rfl⟩ := Int.eq_ofNat_of_zero_le ha.1
    obtain ⟨m, rfl⟩ := Int.eq_ofNat_of_zero_le hb.1
    rw [put_nat n (by omega), put_nat m (by omega)] at h
    have h1 := take_cput n r (by omega)
    have h2 := take_cput m s (by omega)
    rw [h] at h1
    have h4 : n = m := congrArg Prod.fst (h1.symm.trans h2)
    subst h4
    exact ⟨rfl, List.append_cancel_left h⟩
theorem tells_text : Tells wtext (fun s => put s.length ++ s) (fun _ => True) (fun s => s.length ≤ 65536) where
  out s x _ h := by
    obtain ⟨h1, h2, h3⟩ := wput_out h
    exact ⟨h1, h3, by simpa using h2⟩
  inj a b r s ha hb h := by
    rw [List.append_assoc, List.append_assoc] at h
    obtain ⟨h1, h2⟩ := tells_num.inj _ _ _ _ ⟨by omega, by omega⟩ ⟨by omega, by omega⟩ h
    exact List.append_inj h2 (by omega)
theorem tells_flag : Tells wflag (fun b => [if b then 1 else 0]) (fun _ => True) (fun _ => True) where
  out s x _ h := by
    obtain ⟨h1, h2, h3⟩ := wput_out h
    exact ⟨h1, h3, trivial⟩
  inj a b r s ha hb h := by
    rw [List.singleton_append, List.singleton_append, List.cons.injEq] at h
    refine ⟨?_, h.2⟩
    have h1 := h.1
    cases a <;> cases b <;> first | rfl | exact absurd h1 (by decide)
theorem tells_digest : Tells wdigest (fun d => d) (fun d => d.length = 32) (fun d => d.length = 32) where
  out s x p h := by
    obtain ⟨h1, h2, h3⟩ := wput_out h
    exact ⟨h1, h3, p⟩
  inj a b r s ha hb h := List.append_inj h (by rw [ha, hb])
theorem Tells.seq {α β : Type} {f : α → W → W} {f' : β → W → W} {enc : α → Bs} {enc' : β → Bs} {pre ok : α → Prop} {pre' ok' : β → Prop} (h : Tells f enc pre ok) (h' : Tells f' enc' pre' ok') :
    Tells (fun (a : α × β) x => f' a.2 (f a.1 x)) (fun a => enc a.1 ++ enc' a.2) (fun a => pre a.1 ∧ pre' a.2) (fun a => ok a.1 ∧ ok' a.2) where
  out a x p e := by
    obtain ⟨h1, h2, h3⟩ := h'.out _ _ p.2 e
    obtain ⟨g1, g2, g3⟩ := h.out _ _ p.1 h1
    exact ⟨g1, by rw [h2, g2, List.append_assoc], g3, h3⟩
  inj a b r s ha hb e := by
    rw [List.append_assoc, List.append_assoc] at e
    obtain ⟨h1, h2⟩ := h.inj _ _ _ _ ha.1 hb.1 e
    obtain ⟨h3, h4⟩ := h'.inj _ _ _ _ ha.2 hb.2 h2
    exact ⟨Prod.ext h1 h3, h4⟩
theorem Tells.map {α β : Type} {f : α → W → W} {enc : α → Bs} {pre ok : α → Prop} (h : Tells f enc pre ok) (g : β → α) (hg : ∀ b c, g b = g c → b = c) : Tells (fun b => f (g b)) (fun b => enc (g b)) (fun b => pre (g b)) (fun b => ok (g b)) where
  out a x p e := h.out _ _ p e
  inj a b r s ha hb e := by
    obtain ⟨h1, h2⟩ := h.inj _ _ _ _ ha hb e
    exact ⟨hg _ _ h1, h2⟩
theorem wfail_no {e : Int} (he : e ≠ 0) (x : W) : (wfail e x).2 ≠ 0 := by
  unfold wfail
  by_cases h : x.2 = 0
  · rw [if_pos h]; exact he
  · rw [if_neg h]; exact h
theorem Tells.ifs {α : Type} {f : α → W → W} {enc : α → Bs} {pre ok : α → Prop} (h : Tells f enc pre ok) (c : α → Int) : Tells (fun a x => if c a ≠ 0 then wfail (c a) x else f a x) enc pre ok where
  out a x p e := by
    by_cases hc : c a = 0
    · have : ¬ c a ≠ 0 := fun h => h hc
      simp only [if_neg this] at e ⊢
      exact h.out _ _ p e
    · simp only [if_pos hc] at e
      exact absurd e (wfail_no hc x)
  inj := h.inj
theorem Tells.fold {α : Type} {f : α → W → W} {enc : α → Bs} {pre ok : α → Prop} (h : Tells f enc pre ok) : ∀ (l : List α) (x : W), (∀ a ∈ l, pre a) → (l.foldl (fun x a => f a x) x).2 = 0 → x.2 = 0 ∧ (l.foldl (fun x a => f a x) x).1 = x.1 ++ l.flatMap enc ∧ ∀ a ∈ l, ok a
  | [], x, _, e => ⟨e, by simp, fun _ h => by cases h⟩
  | a :: r, x, p, e => by
    rw [List.foldl_cons] at e ⊢
    obtain ⟨h1, h2, h3⟩ := Tells.fold h r (f a x) (fun b hb => p b (List.mem_cons_of_mem _ hb)) e
    obtain ⟨g1, g2, g3⟩ := h.out a x (p a (List.mem_cons_self ..)) h1
    refine ⟨g1, by rw [h2, g2, List.flatMap_cons, List.append_assoc], fun b hb => ?_⟩
    rcases List.mem_cons.1 hb with rfl | hb
    · exact g3
    · exact h3 b hb
theorem Tells.folds {α : Type} {f : α → W → W} {enc : α → Bs} {pre ok : α → Prop} (h : Tells f enc pre ok) : ∀ (l m : List α) (r s : Bs), l.length = m.length → (∀ a ∈ l, ok a) → (∀ a ∈ m, ok a) → l.flatMap enc ++ r = m.flatMap enc ++ s → l = m ∧ r = s
  | [], [], r, s, _, _, _, e => ⟨rfl, by simpa using e⟩
  | [], _ :: _, _, _, hl, _, _, _ => by cases hl
  | _ :: _, [], _, _, hl, _, _, _ => by cases hl
  | a :: l, b :: m, r, s, hl, ha, hb, e => by
    rw [List.flatMap_cons, List.flatMap_cons, List.append_assoc, List.append_assoc] at e
    obtain ⟨h1, h2⟩ := h.inj _ _ _ _ (ha a (List.mem_cons_self ..)) (hb b (List.mem_cons_self ..)) e
    obtain ⟨h3, h4⟩ := Tells.folds h l m r s (by simpa using hl) (fun x hx => ha x (List.mem_cons_of_mem _ hx)) (fun x hx => hb x (List.mem_cons_of_mem _ hx)) h2
    exact ⟨by rw [h1, h3], h4⟩
theorem Tells.list {α : Type} {f : α → W → W} {enc : α → Bs} {pre ok : α → Prop} (h : Tells f enc pre ok) :
    Tells (fun (l : List α) x => l.foldl (fun x a => f a x) (wnum l.length x)) (fun l => put l.length ++ l.flatMap enc) (fun l => ∀ a ∈ l, pre a) (fun l => (0 ≤ (l.length : Int) ∧ (l.length : Int) ≤ 1073741824) ∧ ∀ a ∈ l, ok a) where
  out l x p e := by
    obtain ⟨h1, h2, h3⟩ := h.fold l _ p e
    obtain ⟨g1, g2, g3⟩ := tells_num.out _ _ trivial h1
    exact ⟨g1, by rw [h2, g2, List.append_assoc], g3, h3⟩
  inj a b r s ha hb e := by
    rw [List.append_assoc, List.append_assoc] at e
    obtain ⟨h1, h2⟩ := tells_num.inj _ _ _ _ ha.1 hb.1 e
    exact h.folds _ _ _ _ (by omega) ha.2 hb.2 h2
def verPair (v : Ver) : ((Dot × List Dot) × Bool) × Bs := (((v.dot, v.past), v.dead), v.data)
theorem verPair_inj (v u : Ver) (h : verPair v = verPair u) : v = u := by
  cases v; cases u
  simp only [verPair, Prod.mk.injEq] at h
  obtain ⟨⟨⟨rfl, rfl⟩, rfl⟩, rfl⟩ := h
  rfl
theorem Tells.less {α : Type} {f : α → W → W} {enc : α → Bs} {pre ok : α → Prop} (h : Tells f enc pre ok) (pre' : α → Prop) (hp : ∀ a, pre' a → pre a) : ∃ enc ok, Tells f enc pre' ok :=
  ⟨enc, ok, ⟨fun a x p e => h.out a x (hp a p) e, h.inj⟩⟩
theorem tells_dot : ∃ enc ok, Tells wdot enc (fun _ => True) ok := (tells_num.seq tells_num).less _ fun _ _ => ⟨trivial, trivial⟩
theorem tells_vec : ∃ enc ok, Tells wvec enc (fun _ => True) ok := by
  obtain ⟨enc, ok, h⟩ := tells_dot
  exact (h.list.ifs vcheck).less _ fun _ _ _ _ => trivial
theorem tells_ver : ∃ enc ok, Tells wver enc (fun _ => True) ok := by
  obtain ⟨enc, ok, h⟩ := tells_dot
  obtain ⟨enc', ok', h'⟩ := tells_vec
  exact ((((h.seq h').seq tells_flag).seq tells_text).map verPair verPair_inj).less _ fun _ _ => ⟨⟨⟨trivial, trivial⟩, trivial⟩, trivial⟩
theorem tells_leaf : ∃ enc ok, Tells wleaf enc (fun _ => True) ok := by
  obtain ⟨enc, ok, h⟩ := tells_ver
  exact (h.list.ifs leaf).less _ fun _ _ _ _ => trivial
theorem tells_kid : ∃ enc ok, Tells wkid enc (fun k => k.2.length = 32) ok := (tells_text.seq tells_digest).less _ fun _ h => ⟨trivial, h⟩
theorem tells_node : ∃ enc ok, Tells (fun (n : Node) x => wkids n.2 (wnum n.2.length (wleaf n.1 x))) enc (fun n => ∀ k ∈ n.2, k.2.length = 32) ok := by
  obtain ⟨enc, ok, h⟩ := tells_leaf
  obtain ⟨enc', ok', h'⟩ := tells_kid
  exact (h.seq h'.list).less _ fun _ h => ⟨trivial, h⟩
theorem nbytes_out {n : Node} (h : (nbytes n).2 = 0) : (nbytes n).1 = (wnode n).1 ∧ (wnode n).2 = 0 := by
  unfold nbytes at h ⊢
  by_cases hc : ncheck n = 0
  · have hc' : ¬ ncheck n ≠ 0 := fun h => h hc
    rw [if_neg hc'] at h ⊢
    unfold wdone at h ⊢
    by_cases hw : (wnode n).2 = 0
    · rw [if_pos hw]; exact ⟨rfl, hw⟩
    · rw [if_neg hw] at h; exact absurd h hw
  · rw [if_pos hc] at h; exact absurd h hc
/-- The bytes of a node tell the node. -/
theorem nbytes_inj {n m : Node} (hn : (nbytes n).2 = 0) (hm : (nbytes m).2 = 0) (kn : ∀ k ∈ n.2, k.2.length = 32) (km : ∀ k ∈ m.2, k.2.length = 32) (h : (nbytes n).1 = (nbytes m).1) : n = m := by
  obtain ⟨n1, n2⟩ := nbytes_out hn
  obtain ⟨m1, m2⟩ := nbytes_out hm
  rw [n1, m1] at h
  obtain ⟨enc, ok, T⟩ := tells_node
  obtain ⟨_, a2, a3⟩ := T.out n ([], 0) kn n2
  obtain ⟨_, b2, b3⟩ := T.out m ([], 0) km m2
  have e : (wnode n).1 = (wnode m).1 := h
  unfold wnode at e
  simp only at a2 b2
  rw [a2, b2] at e
  refine (T.inj n m [] [] a3 b3 ?_).1
  simpa using e
end Sp
end Go.Proofs.YtmlkachfahabnaaGreatDoor
namespace Go.Proofs.YtmlkachfahabnaaGreatDoor
open Go.RowKit Go.Shelf
attribute [local go_sem] yUpon strOf_toList
theorem drop_eq_cons {α : Type} {l m : List α} {k : Nat} (h : k < l.length) (h' : k < m.length) : (l.drop k = m.drop k) = (l[k] = m[k] ∧ l.drop (k + 1) = m.drop (k + 1)) := by
  rw [List.drop_eq_getElem_cons h, List.drop_eq_getElem_cons h', List.cons.injEq]
set_option maxRecDepth 100000 in
set_option maxHeartbeats 4000000 in
theorem esame_calls (l m : List Sp.DE) (A B : Option Addr) (cap cap' : Nat) (w : World) (h : EntsAt w A l) (h' : EntsAt w B m) (hl : l.length ≤ 1000000) (hs : ∀ e ∈ l, e.2.length ≤ 1000000) :
    Calls Tryz.prog 8 #[.slice A l.length cap, .slice B m.length cap'] w fun e w' => e = .returned (.bool (decide (l = m))) ∧ Ext w w' := by
  have HH := Lib.hid h
  have HH' := Lib.hid h'
  have HS := Lib.hid hs
  clear h h' hs
  by_cases hlm : l.length = m.length
  · have b1 : ((l.length : Int) != (m.length : Int)) = false := by rw [hlm]; simp
    have HL := Lib.hid hlm
    clear hlm
    go_enter Tryz.func8, Tryz.ntmps8
    go_wp2
    go_loopw [5] (fun v5 wr => ∃ k : Nat, k ≤ l.length ∧ v5 = .int .i64 k ∧ (l = m) = (l.drop k = m.drop k) ∧ Ext w wr) (fun v5 _ => l.length - (intOf v5).toNat)
    case atStart => exact ⟨0, Nat.zero_le _, rfl, rfl, Ext.refl _⟩
    case round =>
      obtain ⟨k, hk, rfl, hv, hb⟩ := hrel
      by_cases hlt : k < l.length
      · have hlt' : k < m.length := by have := HL.out; omega
        obtain ⟨g, o, rfl, hc⟩ := (HH.out.ext hb).at (by omega)
        obtain ⟨g', o', rfl, hc'⟩ := (HH'.out.ext hb).at (by omega)
        obtain ⟨Av, cv, c0, c1, hvv⟩ := hc k hlt
        obtain ⟨Bv, dv, d0, d1, hvv'⟩ := hc' k hlt'
        rw [drop_eq_cons hlt hlt'] at hv
        have hls := HS.out _ (List.getElem_mem hlt)
        obtain ⟨x, hx⟩ : ∃ x, x = l[k] := ⟨_, rfl⟩
        obtain ⟨y, hy⟩ : ∃ y, y = m[k] := ⟨_, rfl⟩
        rw [← hx] at c0 c1 hv hvv hls
        rw [← hy] at d0 d1 hv hvv'
        have HV := Lib.hid hv
        have HB := Lib.hid hb
        have C0 := Lib.hid c0
        have C1 := Lib.hid c1
        have D0 := Lib.hid d0
        have D1 := Lib.hid d1
        have b2 : (k : Int) < (l.length : Int) := by omega
        have b3 : (k : Int) < (m.length : Int) := by omega
        have CS := Lib.hid fun W (e : Ext wr W) => rsame_calls x.2 y.2 Av Bv cv dv W (hvv.ext e) (hvv'.ext e) (by omega)
        clear hv hb hc hc' c0 c1 d0 d1 hvv hvv' hx hy hls
        go_wp2_with fail
        by_cases hp : x.1 = y.1
        · have e1 : (x.1 == y.1) = true := by rw [hp]; exact beq_self_eq_true _
          have HP := Lib.hid hp
          clear hp
          refine wp_region_det (fun W => Ext wr W) (by kernel_rfl) (by kernel_rfl) (Below.refl _ _).drew ?_
          repeat (first
            | (refine det_step (fun K hK => ?_)
               apply Exists.intro
               refine ⟨Or.inl ⟨rfl, fun W hS => ?_⟩, ?_⟩
               · replace hS : Ext wr W := hS
                 have f0 := hS.cell C0.out; have f1 := hS.cell C1.out; have z0 := hS.cell D0.out; have z1 := hS.cell D1.out
                 go_simp
                 first
                 | exact rfl
                 | exact ⟨rfl, hS⟩
                 | (refine (CS.out W hS).mono ?_; rintro e w1 ⟨rfl, hb1⟩; exact ⟨rfl, hS.trans hb1⟩)
               go_simp
               refine hK _ ?_
               clear hK K)
            | (refine det_step (fun K hK => ?_); refine det_no' rfl ?_; go_simp; refine hK _ ?_; clear hK K))
          refine det_nil ?_
          intro W9 hS
          replace hS : Ext _ W9 := hS
          have F2 := Lib.hid (show ∀ b : Bool, (!decide (x.2 = y.2)) = b → (b = true → decide (l = m) = false) ∧ (b = false → x = y) from fun b hb => ⟨fun h => by
              subst h
              rw [decide_eq_false_iff_not, HV.out]
              rintro ⟨rfl, _⟩
              simp at hb, fun h => by
              subst h
              have h3 : x.2 = y.2 := by simpa using hb
              exact Prod.ext HP.out h3⟩)
          go_wp2
          · go_ret
            rename_i hn
            exact ⟨by first | (rw [((F2.out _ hn).1 rfl)]; done) | (rw [((F2.out _ hn).1 rfl)]; rfl), HB.out.trans hS⟩
          · rename_i hn
            go_roundw
            case rel => exact ⟨k + 1, by omega, by go_num, by rw [HV.out, (F2.out _ hn).2 rfl]; simp, HB.out.trans hS⟩
            case measure => simp [intOf]; omega
        · have e1 : (x.1 == y.1) = false := by rw [beq_eq_false_iff_ne]; exact hp
          have F := Lib.hid (show decide (l = m) = false by rw [decide_eq_false_iff_not, HV.out]; rintro ⟨rfl, _⟩; exact hp rfl)
          clear hp
          refine wp_region_det (fun W => Ext wr W) (by kernel_rfl) (by kernel_rfl) (Below.refl _ _).drew ?_
          repeat (first
            | (refine det_step (fun K hK => ?_)
               apply Exists.intro
               refine ⟨Or.inl ⟨rfl, fun W hS => ?_⟩, ?_⟩
               · replace hS : Ext wr W := hS
                 have f0 := hS.cell C0.out; have f1 := hS.cell C1.out; have z0 := hS.cell D0.out; have z1 := hS.cell D1.out
                 go_simp
                 first
                 | exact rfl
                 | exact ⟨rfl, hS⟩
                 | (fail)
               go_simp
               refine hK _ ?_
               clear hK K)
            | (refine det_step (fun K hK => ?_); refine det_no' rfl ?_; go_simp; refine hK _ ?_; clear hK K))
          refine det_nil ?_
          intro W9 hS
          replace hS : Ext _ W9 := hS
          go_wp2
          go_ret
          exact ⟨by first | (rw [F.out]; done) | (rw [F.out]; rfl), HB.out.trans hS⟩
      · obtain rfl : k = l.length := by omega
        have F := Lib.hid (show decide (l = m) = true by rw [decide_eq_true_iff, hv, List.drop_length, HL.out, List.drop_length])
        clear hv
        go_wp2
        go_ret
        exact ⟨by first | (rw [F.out]; done) | (rw [F.out]; rfl), hb⟩
  · have b1 : ((l.length : Int) != (m.length : Int)) = true := by rw [bne_iff_ne]; omega
    have F := Lib.hid (show decide (l = m) = false by rw [decide_eq_false_iff_not]; rintro rfl; exact hlm rfl)
    clear hlm
    go_enter Tryz.func8, Tryz.ntmps8
    go_wp2
    go_ret
    exact ⟨by first | (rw [F.out]; done) | (rw [F.out]; rfl), Ext.refl _⟩
end Go.Proofs.YtmlkachfahabnaaGreatDoor
