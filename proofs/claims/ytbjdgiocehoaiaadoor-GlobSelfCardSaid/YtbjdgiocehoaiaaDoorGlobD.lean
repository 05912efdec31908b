/- Walks: a pattern over a path. -/
import Derived.Test.YtbjdgiocehoaiaaDoorPathsR
import Derived.Test.YtbjdgiocehoaiaaDoorRegion
import Derived.Laws.EntriesVeiled
namespace Go.Proofs.YtbjdgiocehoaiaaDoor
open Go.RowKit

theorem below_drewN {B : Nat} {a w : World} (h : Below B a w) (n : Nat) : Below B a (w.drewN n) := ⟨h.os, h.tape, h.output, h.size, h.block⟩

set_option maxHeartbeats 1000000 in
theorem gpiece_calls (p s : ByteArray) (w : World) (hsh : ∃ m, w.cell? ⟨0, 0, none⟩ = some (.int .i64 m)) (hp : p.size < 4294967200) (hs : s.size < 4294967200) :
    Calls Tryd.prog 12 #[.string p, .string s] w fun e w' => e = .returned (.bool (Sp.gpiece p.data.toList s.data.toList)) ∧ Below w.heap.size w w' := by
  have hl : p.data.toList.length = p.size := by simp
  by_cases h1 : 24 < p.size
  · have F := Lib.hid (show Sp.gpiece p.data.toList s.data.toList = false by unfold Sp.gpiece; rw [hl, decide_eq_false (show ¬ p.size ≤ 24 by omega)]; rfl)
    have e1 : decide ((24 : Int) < (p.size : Int)) = true := by simp; omega
    clear h1 hl
    go_enter Tryd.func12, Tryd.ntmps12
    go_wp2_with fail
    go_ret
    exact ⟨ret_bool F.out.symm, Below.refl _ _⟩
  have e1 : decide ((24 : Int) < (p.size : Int)) = false := by simp; omega
  by_cases h2 : p.toList = [42, 42]
  · have F := Lib.hid (show Sp.gpiece p.data.toList s.data.toList = false by rw [toList_data] at h2; unfold Sp.gpiece; rw [h2]; rfl)
    clear h1 hl
    go_enter Tryd.func12, Tryd.ntmps12
    go_wp2_with fail
    go_ret
    exact ⟨ret_bool F.out.symm, Below.refl _ _⟩
  have e2 : (p.toList == [42, 42]) = false := by simpa using h2
  have hg : Sp.gpiece p.data.toList s.data.toList = (Sp.piece p.data.toList && Sp.name s.data.toList && Sp.pm p.data.toList s.data.toList) := by
    rw [toList_data] at h2
    unfold Sp.gpiece; rw [hl, decide_eq_true (show p.size ≤ 24 by omega), decide_eq_true h2]; rfl
  have G := Lib.hid hg
  clear hg h2 hl
  cases q1 : Sp.piece p.data.toList with
  | false =>
    have F := Lib.hid (show Sp.gpiece p.data.toList s.data.toList = false by rw [G.out, q1]; rfl)
    have PC := Lib.hid (piece_calls p w hsh (by omega))
    rw [q1] at PC
    clear G q1
    go_enter Tryd.func12, Tryd.ntmps12
    go_wp2_with (go_at_call 27; refine PC.out.mono ?_; rintro e w' ⟨rfl, rfl⟩)
    go_ret
    exact ⟨ret_bool F.out.symm, Below.refl _ _⟩
  | true =>
    have PC := Lib.hid (piece_calls p w hsh (by omega))
    rw [q1] at PC
    have NC := Lib.hid (name_calls s w (by omega))
    cases q2 : Sp.name s.data.toList with
    | false =>
      have F := Lib.hid (show Sp.gpiece p.data.toList s.data.toList = false by rw [G.out, q1, q2]; rfl)
      rw [q2] at NC
      clear G q1 q2
      go_enter Tryd.func12, Tryd.ntmps12
      go_wp2_with (first | (go_at_call 27; refine PC.out.mono ?_; rintro e w' ⟨rfl, rfl⟩) | (go_at_call 30; refine NC.out.mono ?_; rintro e w' ⟨rfl, rfl⟩))
      go_ret
      exact ⟨ret_bool F.out.symm, Below.refl _ _⟩
    | true =>
      have F := Lib.hid (show Sp.gpiece p.data.toList s.data.toList = Sp.pm p.data.toList s.data.toList by rw [G.out, q1, q2]; rfl)
      have hn : s.size ≤ 12 := by
        unfold Sp.name at q2; simp at q2; have := q2.1.1.1.2; omega
      rw [q2] at NC
      clear G q1 q2
      have PM := Lib.hid fun W hc => pm_calls w.heap.size (p.size + s.size) p s W (Nat.le_refl _) (by omega) hc
      go_enter Tryd.func12, Tryd.ntmps12
      go_wp2_with (first | (go_at_call 27; refine PC.out.mono ?_; rintro e w' ⟨rfl, rfl⟩) | (go_at_call 30; refine NC.out.mono ?_; rintro e w' ⟨rfl, rfl⟩) | fail)
      refine (PM.out _ (by go_simp)).mono ?_
      rintro e w' ⟨rfl, m, rfl⟩
      go_wp2
      go_ret
      exact ⟨ret_bool F.out.symm, below_drewN ((Below.refl _ _).alloc (Nat.le_refl _) _) _⟩

/-- What the variable of the closure holds. -/
abbrev lmFn (b : Nat) : Value := .func (.func 34) #[] #[.pointer (some ⟨b, 0, none⟩)]

/-- A row of texts at an address, if there are any. -/
def Rd (w : World) (A : Option Addr) (L : List ByteArray) : Prop := L ≠ [] → ∃ g o, A = some ⟨g, o, none⟩ ∧ ∀ k, (h : k < L.length) → w.cell? ⟨g, o + k, none⟩ = some (.string L[k])
theorem Rd.below {w w' : World} {A : Option Addr} {L : List ByteArray} (h : Rd w A L) (hb : Below w.heap.size w w') : Rd w' A L := fun hn => by
  obtain ⟨g, o, ha, hc⟩ := h hn
  refine ⟨g, o, ha, fun k hk => ?_⟩
  rw [hb.cell (p := ⟨g, o + k, none⟩) (World.block_lt_of_cell? _ _ (hc k hk))]; exact hc k hk
theorem Rd.tail {w : World} {g o : Nat} {x : ByteArray} {L : List ByteArray} (h : Rd w (some ⟨g, o, none⟩) (x :: L)) : Rd w (some ⟨g, o + 1, none⟩) L := fun _ => by
  obtain ⟨g', o', ha, hc⟩ := h (by simp)
  obtain ⟨rfl, rfl⟩ : g = g' ∧ o = o' := by simpa using ha
  refine ⟨g, o + 1, rfl, fun k hk => ?_⟩
  rw [show o + 1 + k = o + (k + 1) by omega]
  exact hc (k + 1) (by simpa using hk)
theorem Rd.nil (w : World) (A : Option Addr) : Rd w A [] := fun h => absurd rfl h
/-- All of a row's texts are short. -/
def Short (L : List ByteArray) : Prop := ∀ x ∈ L, x.size ≤ 10000

def LmSaid (b n : Nat) : Prop := ∀ (L M : List ByteArray) (A1 A2 : Option Addr) (c1 c2 : Nat) (w : World), L.length + M.length ≤ n → n ≤ 1000 → L.length ≤ c1 → M.length ≤ c2 → Rd w A1 L → Rd w A2 M → Short L → Short M →
  (∃ m, w.cell? ⟨0, 0, none⟩ = some (.int .i64 m)) → w.cell? ⟨b, 0, none⟩ = some (lmFn b) →
    Calls Tryd.prog 34 #[.slice A1 L.length c1, .slice A2 M.length c2, .pointer (some ⟨b, 0, none⟩)] w fun e w' => e = .returned (.bool (Sp.lm (L.map (·.data.toList)) (M.map (·.data.toList)))) ∧ Below w.heap.size w w'

set_option maxHeartbeats 1000000 in
theorem lm_nil (b : Nat) (M : List ByteArray) (A1 A2 : Option Addr) (c1 c2 : Nat) (w : World) (h2 : M.length ≤ c2) :
    Calls Tryd.prog 34 #[.slice A1 0 c1, .slice A2 M.length c2, .pointer (some ⟨b, 0, none⟩)] w fun e w' => e = .returned (.bool (Sp.lm [] (M.map (·.data.toList)))) ∧ Below w.heap.size w w' := by
  go_enter Tryd.func34, Tryd.ntmps34
  go_wp2
  go_ret
  exact ⟨ret_bool (by rw [Sp.lm]; cases M <;> simp <;> omega), Below.refl _ _⟩

/-- The rest of a row of texts behind its first one: where it lies, and how the model cuts it. -/
theorem tail_strs {w : World} {g o c n : Nat} {x : ByteArray} {L : List ByteArray} (hn : n = L.length) (h : Rd w (some ⟨g, o, none⟩) (x :: L)) (hc : n + 1 ≤ c) :
    ∃ A', Rd w A' L ∧ ∀ W, (Instr.slice 27 (.slice (some ⟨g, o, none⟩) (n + 1) c) (some (.int .i64 1)) none none).run Tryd.prog W = .ok (.slice A' n (c - 1)) W := by
  subst hn
  by_cases e : c = 1
  · obtain rfl : L = [] := by cases L with | nil => rfl | cons y t => simp at hc; omega
    refine ⟨some ⟨g, o, none⟩, Rd.nil _ _, fun W => ?_⟩
    subst e
    go_simp
  · refine ⟨some ⟨g, o + 1, none⟩, h.tail, fun W => ?_⟩
    have e' : ¬ c - 1 = 0 := by omega
    have e2 : (1 : Int) ≤ (L.length : Int) + 1 := by omega
    go_simp

theorem lm_cons_nil (c : Sp.Bs) (p : List Sp.Bs) : Sp.lm (c :: p) [] = if c = [42, 42] then Sp.lm p [] else false := by rw [Sp.lm]; rfl
theorem lm_cons (c d : Sp.Bs) (p s : List Sp.Bs) : Sp.lm (c :: p) (d :: s) = if c = [42, 42] then Sp.lm p (d :: s) || Sp.lm (c :: p) s else Sp.gpiece c d && Sp.lm p s := by
  simp only [Sp.lm, Sp.star]
  split <;> rfl

theorem keep_below {w W W' : World} (h : Below w.heap.size w W) (k : Below W.heap.size W W') : Below w.heap.size w W' := h.trans (k.mono h.size)
theorem keep_cell {W W' : World} {a : Addr} {v : Value} (h : W.cell? a = some v) (k : Below W.heap.size W W') : W'.cell? a = some v := by
  rw [k.cell (World.block_lt_of_cell? _ _ h)]; exact h

attribute [local go_sem] yUpon
/-- The worlds on the way: the closure's variable is as it was, and what was there ahead of the call. -/
def LmS (b : Nat) (w W : World) : Prop := W.cell? ⟨b, 0, none⟩ = some (lmFn b) ∧ Below w.heap.size w W

set_option maxHeartbeats 2000000 in
theorem lm_star (b n : Nat) (ih : LmSaid b n) (x : ByteArray) (L M : List ByteArray) (g o : Nat) (A2 : Option Addr) (c1 c2 : Nat) (w : World) (hn : L.length + 1 + M.length ≤ n + 1) (hn1 : n + 1 ≤ 1000) (h1 : L.length + 1 ≤ c1) (h2 : M.length ≤ c2)
    (r1 : Rd w (some ⟨g, o, none⟩) (x :: L)) (r2 : Rd w A2 M) (s1 : Short (x :: L)) (s2 : Short M) (hsh : ∃ m, w.cell? ⟨0, 0, none⟩ = some (.int .i64 m)) (hb : w.cell? ⟨b, 0, none⟩ = some (lmFn b)) (hx : x.toList = [42, 42]) :
    Calls Tryd.prog 34 #[.slice (some ⟨g, o, none⟩) (L.length + 1) c1, .slice A2 M.length c2, .pointer (some ⟨b, 0, none⟩)] w fun e w' => e = .returned (.bool (Sp.lm ((x :: L).map (·.data.toList)) (M.map (·.data.toList)))) ∧ Below w.heap.size w w' := by
  obtain ⟨A', rA, hsl⟩ := tail_strs (c := c1) rfl r1 h1
  have hx' : x.data.toList = [42, 42] := by rw [← toList_data]; exact hx
  have hx0 : w.cell? ⟨g, o, none⟩ = some (.string x) := by
    obtain ⟨g', o', ha, hc⟩ := r1 (by simp)
    obtain ⟨rfl, rfl⟩ : g = g' ∧ o = o' := by simpa using ha
    exact hc 0 (by simp)
  have C1 := Lib.hid fun W (hW : Below w.heap.size w W) => ih L M A' A2 (c1 - 1) c2 W (by omega) (by omega) (by omega) h2 (rA.below hW) (r2.below hW) (fun y hy => s1 y (by simp [hy])) s2 (max_kept hsh hW) (keep_cell hb hW)
  cases M with
  | nil =>
    have F := Lib.hid (show Sp.lm ((x :: L).map (·.data.toList)) (([] : List ByteArray).map (·.data.toList)) = Sp.lm (L.map (·.data.toList)) [] by
      rw [List.map_cons, List.map_nil, lm_cons_nil, if_pos hx'])
    obtain ⟨v, hv⟩ : ∃ v, Sp.lm (L.map (·.data.toList)) [] = v := ⟨_, rfl⟩
    simp only [List.map_nil, List.length_nil, hv] at C1
    have HV := Lib.hid hv
    clear r1 rA r2 s1 s2 hsh hx' hv h1 hn ih
    cases v
    all_goals
      go_enter Tryd.func34, Tryd.ntmps34
      go_wp2_with fail
      refine wp_region_det (LmS b w) (by kernel_rfl) (by kernel_rfl) ⟨hb, (Below.refl _ _).drew⟩ ?_
      repeat (first
        | (refine det_step (fun K hK => ?_)
           apply Exists.intro
           refine ⟨Or.inl ⟨rfl, fun W hS => ?_⟩, ?_⟩
           · have hc := hS.1
             have hz := hS.2
             go_simp
             first
             | exact rfl
             | exact ⟨rfl, hS⟩
             | (refine (C1.out _ hz).mono ?_; rintro e w' ⟨rfl, hb1⟩; exact ⟨rfl, keep_cell hc hb1, keep_below hz hb1⟩)
           go_simp
           refine hK _ ?_
           clear hK K)
        | (refine det_step (fun K hK => ?_); refine det_no' rfl ?_; go_simp; refine hK _ ?_; clear hK K))
      refine det_nil ?_
      intro w' hS
      go_wp2
      go_ret
      exact ⟨ret_bool (by rw [F.out, HV.out]), hS.2⟩
  | cons y t =>
    obtain ⟨g2, o2, rfl, hM⟩ := r2 (by simp)
    obtain ⟨B', rB, hsl2⟩ := tail_strs (c := c2) rfl r2 (by simpa using h2)
    have C2 := Lib.hid fun W (hW : Below w.heap.size w W) => ih (x :: L) t (some ⟨g, o, none⟩) B' c1 (c2 - 1) W (by simp at hn ⊢; omega) (by omega) (by simpa using h1) (by simp at h2; omega) (r1.below hW) (rB.below hW) s1 (fun z hz => s2 z (by simp [hz])) (max_kept hsh hW) (keep_cell hb hW)
    have F := Lib.hid (show Sp.lm ((x :: L).map (·.data.toList)) ((y :: t).map (·.data.toList)) = (Sp.lm (L.map (·.data.toList)) ((y :: t).map (·.data.toList)) || Sp.lm ((x :: L).map (·.data.toList)) (t.map (·.data.toList))) by
      rw [List.map_cons, List.map_cons, lm_cons, if_pos hx'])
    obtain ⟨v, hv⟩ : ∃ v, Sp.lm (L.map (·.data.toList)) ((y :: t).map (·.data.toList)) = v := ⟨_, rfl⟩
    obtain ⟨u, hu⟩ : ∃ u, Sp.lm ((x :: L).map (·.data.toList)) (t.map (·.data.toList)) = u := ⟨_, rfl⟩
    simp only [List.length_cons, hv] at C1
    simp only [List.length_cons, hu] at C2
    have HV := Lib.hid hv
    have HU := Lib.hid hu
    have hpos : decide ((0 : Int) < (t.length : Int) + 1) = true := decide_eq_true (by omega)
    simp only [List.length_cons]
    clear r1 rA r2 rB hM s1 s2 hsh hx' hv hu h1 h2 hn ih
    cases v
    · go_enter Tryd.func34, Tryd.ntmps34
      go_wp2_with fail
      refine wp_region_det (LmS b w) (by kernel_rfl) (by kernel_rfl) ⟨hb, (Below.refl _ _).drew⟩ ?_
      repeat (first
        | (refine det_step (fun K hK => ?_)
           apply Exists.intro
           refine ⟨Or.inl ⟨rfl, fun W hS => ?_⟩, ?_⟩
           · have hc := hS.1
             have hz := hS.2
             go_simp
             first
             | exact rfl
             | exact ⟨rfl, hS⟩
             | ((first | with_reducible refine (C1.out _ hz).mono ?_ | with_reducible refine (C2.out _ hz).mono ?_); rintro e w' ⟨rfl, hb1⟩; exact ⟨rfl, keep_cell hc hb1, keep_below hz hb1⟩)
           go_simp
           refine hK _ ?_
           clear hK K)
        | (refine det_step (fun K hK => ?_); refine det_no' rfl ?_; go_simp; refine hK _ ?_; clear hK K))
      refine det_nil ?_
      intro w' hS
      go_wp2
      go_ret
      exact ⟨ret_bool (by rw [F.out, HV.out, HU.out]; rfl), hS.2⟩
    · go_enter Tryd.func34, Tryd.ntmps34
      go_wp2_with fail
      refine wp_region_det (LmS b w) (by kernel_rfl) (by kernel_rfl) ⟨hb, (Below.refl _ _).drew⟩ ?_
      repeat (first
        | (refine det_step (fun K hK => ?_)
           apply Exists.intro
           refine ⟨Or.inl ⟨rfl, fun W hS => ?_⟩, ?_⟩
           · have hc := hS.1
             have hz := hS.2
             go_simp
             first
             | exact rfl
             | exact ⟨rfl, hS⟩
             | ((with_reducible refine (C1.out _ hz).mono ?_); rintro e w' ⟨rfl, hb1⟩; exact ⟨rfl, keep_cell hc hb1, keep_below hz hb1⟩)
           go_simp
           refine hK _ ?_
           clear hK K)
        | (refine det_step (fun K hK => ?_); refine det_no' rfl ?_; go_simp; refine hK _ ?_; clear hK K))
      refine det_nil ?_
      intro w' hS
      go_wp2
      go_ret
      exact ⟨ret_bool (by rw [F.out, HV.out]; rfl), hS.2⟩

set_option maxHeartbeats 2000000 in
theorem lm_other (b n : Nat) (ih : LmSaid b n) (x : ByteArray) (L M : List ByteArray) (g o : Nat) (A2 : Option Addr) (c1 c2 : Nat) (w : World) (hn : L.length + 1 + M.length ≤ n + 1) (hn1 : n + 1 ≤ 1000) (h1 : L.length + 1 ≤ c1) (h2 : M.length ≤ c2)
    (r1 : Rd w (some ⟨g, o, none⟩) (x :: L)) (r2 : Rd w A2 M) (s1 : Short (x :: L)) (s2 : Short M) (hsh : ∃ m, w.cell? ⟨0, 0, none⟩ = some (.int .i64 m)) (hb : w.cell? ⟨b, 0, none⟩ = some (lmFn b)) (hx : ¬ x.toList = [42, 42]) :
    Calls Tryd.prog 34 #[.slice (some ⟨g, o, none⟩) (L.length + 1) c1, .slice A2 M.length c2, .pointer (some ⟨b, 0, none⟩)] w fun e w' => e = .returned (.bool (Sp.lm ((x :: L).map (·.data.toList)) (M.map (·.data.toList)))) ∧ Below w.heap.size w w' := by
  obtain ⟨A', rA, hsl⟩ := tail_strs (c := c1) rfl r1 h1
  have hx' : ¬ x.data.toList = [42, 42] := by rw [← toList_data]; exact hx
  have hxb : (x.toList == [42, 42]) = false := by simpa using hx
  have hx0 : w.cell? ⟨g, o, none⟩ = some (.string x) := by
    obtain ⟨g', o', ha, hc⟩ := r1 (by simp)
    obtain ⟨rfl, rfl⟩ : g = g' ∧ o = o' := by simpa using ha
    exact hc 0 (by simp)
  cases M with
  | nil =>
    have F := Lib.hid (show Sp.lm ((x :: L).map (·.data.toList)) (([] : List ByteArray).map (·.data.toList)) = false by
      rw [List.map_cons, List.map_nil, lm_cons_nil, if_neg hx'])
    clear r1 rA r2 s1 s2 hsh hx' hx h1 hn ih
    go_enter Tryd.func34, Tryd.ntmps34
    go_wp2_with fail
    go_quiet (fail)
    go_wp2
    go_ret
    exact ⟨ret_bool F.out.symm, below_drewN (Below.refl _ _) _⟩
  | cons y t =>
    obtain ⟨g2, o2, rfl, hM⟩ := r2 (by simp)
    obtain ⟨B', rB, hsl2⟩ := tail_strs (c := c2) rfl r2 (by simpa using h2)
    have hy0 : w.cell? ⟨g2, o2, none⟩ = some (.string y) := hM 0 (by simp)
    have C0 := Lib.hid fun W (hW : Below w.heap.size w W) => gpiece_calls x y W (max_kept hsh hW) (by have := s1 x (by simp); omega) (by have := s2 y (by simp); omega)
    have C1 := Lib.hid fun W (hW : Below w.heap.size w W) => ih L t A' B' (c1 - 1) (c2 - 1) W (by simp at hn; omega) (by omega) (by omega) (by simp at h2; omega) (rA.below hW) (rB.below hW) (fun z hz => s1 z (by simp [hz])) (fun z hz => s2 z (by simp [hz])) (max_kept hsh hW) (keep_cell hb hW)
    have F := Lib.hid (show Sp.lm ((x :: L).map (·.data.toList)) ((y :: t).map (·.data.toList)) = (Sp.gpiece x.data.toList y.data.toList && Sp.lm (L.map (·.data.toList)) (t.map (·.data.toList))) by
      rw [List.map_cons, List.map_cons, lm_cons, if_neg hx'])
    obtain ⟨v, hv⟩ : ∃ v, Sp.gpiece x.data.toList y.data.toList = v := ⟨_, rfl⟩
    obtain ⟨u, hu⟩ : ∃ u, Sp.lm (L.map (·.data.toList)) (t.map (·.data.toList)) = u := ⟨_, rfl⟩
    simp only [hv] at C0
    simp only [hu] at C1
    have HV := Lib.hid hv
    have HU := Lib.hid hu
    have hpos : decide ((0 : Int) < (t.length : Int) + 1) = true := decide_eq_true (by omega)
    simp only [List.length_cons]
    clear r1 rA r2 rB hM s1 s2 hsh hx' hx hv hu h1 h2 hn ih
    cases v
    · go_enter Tryd.func34, Tryd.ntmps34
      go_wp2_with fail
      refine wp_region_det (LmS b w) (by kernel_rfl) (by kernel_rfl) ⟨hb, (Below.refl _ _).drew⟩ ?_
      repeat (first
        | (refine det_step (fun K hK => ?_)
           apply Exists.intro
           refine ⟨Or.inl ⟨rfl, fun W hS => ?_⟩, ?_⟩
           · have hc := hS.1
             have hz := hS.2
             have hx1 := keep_cell hx0 hz
             have hy1 := keep_cell hy0 hz
             go_simp
             first
             | exact rfl
             | exact ⟨rfl, hS⟩
             | ((with_reducible refine (C0.out _ hz).mono ?_); rintro e w' ⟨rfl, hb1⟩; exact ⟨rfl, keep_cell hc hb1, keep_below hz hb1⟩)
           go_simp
           refine hK _ ?_
           clear hK K)
        | (refine det_step (fun K hK => ?_); refine det_no' rfl ?_; go_simp; refine hK _ ?_; clear hK K))
      refine det_nil ?_
      intro w' hS
      go_wp2
      go_ret
      exact ⟨ret_bool (by rw [F.out, HV.out]; rfl), hS.2⟩
    · go_enter Tryd.func34, Tryd.ntmps34
      go_wp2_with fail
      refine wp_region_det (LmS b w) (by kernel_rfl) (by kernel_rfl) ⟨hb, (Below.refl _ _).drew⟩ ?_
      repeat (first
        | (refine det_step (fun K hK => ?_)
           apply Exists.intro
           refine ⟨Or.inl ⟨rfl, fun W hS => ?_⟩, ?_⟩
           · have hc := hS.1
             have hz := hS.2
             have hx1 := keep_cell hx0 hz
             have hy1 := keep_cell hy0 hz
             go_simp
             first
             | exact rfl
             | exact ⟨rfl, hS⟩
             | ((first | with_reducible refine (C0.out _ hz).mono ?_ | with_reducible refine (C1.out _ hz).mono ?_); rintro e w' ⟨rfl, hb1⟩; exact ⟨rfl, keep_cell hc hb1, keep_below hz hb1⟩)
           go_simp
           refine hK _ ?_
           clear hK K)
        | (refine det_step (fun K hK => ?_); refine det_no' rfl ?_; go_simp; refine hK _ ?_; clear hK K))
      refine det_nil ?_
      intro w' hS
      go_wp2
      go_ret
      exact ⟨ret_bool (by rw [F.out, HV.out, HU.out]; rfl), hS.2⟩

theorem lm_calls (b : Nat) : ∀ n, LmSaid b n := by
  intro n
  induction n with
  | zero =>
    intro L M A1 A2 c1 c2 w hn _ h1 h2 _ _ _ _ _ _
    obtain rfl : L = [] := List.eq_nil_of_length_eq_zero (by omega)
    exact lm_nil b M A1 A2 c1 c2 w h2
  | succ n ih =>
    intro L M A1 A2 c1 c2 w hn hn1 h1 h2 r1 r2 s1 s2 hsh hb
    cases L with
    | nil => exact lm_nil b M A1 A2 c1 c2 w h2
    | cons x L =>
      obtain ⟨g, o, rfl, _⟩ := r1 (by simp)
      by_cases hx : x.toList = [42, 42]
      · exact lm_star b n ih x L M g o A2 c1 c2 w (by simpa using hn) hn1 (by simpa using h1) h2 r1 r2 s1 s2 hsh hb hx
      · exact lm_other b n ih x L M g o A2 c1 c2 w (by simpa using hn) hn1 (by simpa using h1) h2 r1 r2 s1 s2 hsh hb hx
end Go.Proofs.YtbjdgiocehoaiaaDoor
