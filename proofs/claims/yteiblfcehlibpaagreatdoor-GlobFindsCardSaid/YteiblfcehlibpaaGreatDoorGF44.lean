/- Views: the files of a tree. Walks: a pattern over a path. -/
import Derived.Test.YteiblfcehlibpaaGreatDoorGF42
import Derived.Test.YteiblfcehlibpaaGreatDoorGF43
import Derived.Test.YteiblfcehlibpaaGreatDoorGF17
import Derived.Test.YteiblfcehlibpaaGreatDoorGF02
import Derived.Laws.EntriesVeiled
namespace Go.Proofs.YteiblfcehlibpaaGreatDoor
open Go.RowKit Go.Shelf
attribute [local go_sem] yUpon strOf_toList
namespace Sp
/-- The paths that are seen. -/
def seenP (m : List DE) : List Bs := m.filterMap fun e => if live e.2 = [] then none else some e.1
theorem seenP_take (m : List DE) (k : Nat) (h : k < m.length) : seenP (m.take (k + 1)) = seenP (m.take k) ++ if live m[k].2 = [] then [] else [m[k].1] := by
  unfold seenP
  rw [List.take_succ_eq_append_getElem h, List.filterMap_append]
  congr 1
  by_cases hl : live m[k].2 = []
  · simp [hl]
  · simp [hl]
theorem seenP_len (m : List DE) : (seenP m).length ≤ m.length := List.length_filterMap_le _ _
theorem seenP_shown (m : List DE) : (shownM m).map (·.1) = seenP m := by
  unfold shownM seenP
  induction m with
  | nil => rfl
  | cons e r ih =>
    rw [List.filterMap_cons, List.filterMap_cons]
    by_cases hl : live e.2 = []
    · simp only [if_pos hl]; exact ih
    · simp only [if_neg hl, List.map_cons, ih]
end Sp
def filesC : List (Sp.Bs × Sp.Bs) → List Value
  | [] => []
  | x :: r => .string (strOf x.1) :: .string (strOf x.2) :: filesC r
theorem filesC_snoc (l : List (Sp.Bs × Sp.Bs)) (x : Sp.Bs × Sp.Bs) : filesC (l ++ [x]) = filesC l ++ [.string (strOf x.1), .string (strOf x.2)] := by
  induction l with
  | nil => rfl
  | cons y r ih => rw [List.cons_append, filesC, ih, filesC]; rfl
theorem filesC_len : ∀ l, (filesC l).length = l.length * 2
  | [] => rfl
  | x :: r => by rw [filesC, List.length_cons, List.length_cons, filesC_len r, List.length_cons]; omega
theorem filesC_get : ∀ (l : List (Sp.Bs × Sp.Bs)) (k : Nat) (h : k < l.length), (filesC l)[k * 2]? = some (.string (strOf l[k].1)) ∧ (filesC l)[k * 2 + 1]? = some (.string (strOf l[k].2))
  | x :: r, 0, _ => ⟨rfl, rfl⟩
  | x :: r, k + 1, h => by
    have := filesC_get r k (by simpa using h)
    rw [show (k + 1) * 2 = k * 2 + 1 + 1 by omega, show k * 2 + 1 + 1 + 1 = k * 2 + 1 + 1 + 1 from rfl]
    simpa [filesC] using this
theorem appFile : AppStat Tryz.prog 104 107 2 32 := by
  refine ⟨Tryz.underlying104, by decide, by decide, ?_⟩
  obtain ⟨i0, hi, hz0, hz1, hz2⟩ := info_parts (show (Tryz.prog.info? 107).map (fun i => (i.zero, i.size, i.bytes)) = some (some (.agg #[.string ⟨#[]⟩, .string ⟨#[]⟩]), 2, 32) by kernel_rfl)
  exact ⟨i0, _, hi, hz0, hz1, hz2, rfl⟩
set_option maxRecDepth 100000 in
set_option maxHeartbeats 4000000 in
theorem files_calls (o : Option Sp.T) (v : Value) (m : List Sp.DE) (BO : Sp.Both o m) (w : World) (hT : TreeAt w v o) (K : KeysAt w 4) (hv : ∀ e ∈ m, e.2.length ≤ 1000) :
    Calls Tryz.prog 79 #[v] w fun e w' => ∃ A c fs, e = .returned (.slice A (fs : List (Sp.Bs × Sp.Bs)).length c) ∧ fs.map (·.1) = Sp.seenP m ∧ Cells w' A (filesC fs) ∧ Ext w w' := by
  have EC := Lib.hid (entries_calls o v w hT BO.go BO.short K)
  rw [BO.told] at EC
  have HV := Lib.hid hv
  have ml : m.length ≤ 128 := BO.gm.2
  obtain ⟨ap, rfl⟩ := tree_ptr hT
  clear hT K BO hv
  go_enter Tryz.func79, Tryz.ntmps79
  go_wp2_with fail
  refine EC.out.mono ?_
  rintro e w2 ⟨A2, c2, rfl, hE2, hb2⟩
  have E2 := Lib.hid hE2
  have B2 := Lib.hid hb2
  clear hE2 hb2 EC
  go_wp2
  go_loopw [3, 11] (fun v3 v11 wr => ∃ (k : Nat) (fs : List (Sp.Bs × Sp.Bs)), k ≤ m.length ∧ v11 = .int .i64 k ∧ fs.map (·.1) = Sp.seenP (m.take k) ∧ wr.ownsRow w2.heap.size 107 2 v3 fs.length (filesC fs) ∧ Ext w2 wr) (fun _ v11 _ => m.length - (intOf v11).toNat)
  case atStart => exact ⟨0, [], Nat.zero_le _, rfl, rfl, World.ownsRow_nil _ _ _ _, Ext.refl _⟩
  case round =>
    obtain ⟨k, fs, hk, rfl, hm, hO, hb⟩ := hrel
    have HB := Lib.hid hb
    have HO := Lib.hid hO
    have HM := Lib.hid hm
    by_cases hlt : k < m.length
    · obtain ⟨eb, eo, rfl, he⟩ := E2.out.at (by omega)
      obtain ⟨Av, cv, c0, c1, hvv⟩ := he k hlt
      have HVV := Lib.hid hvv
      have c0 := hb.cell c0
      have c1 := hb.cell c1
      have ST := Lib.hid (Sp.seenP_take m k hlt)
      have xl := HV.out _ (List.getElem_mem hlt)
      have fl : fs.length ≤ k := by
        have h1 := congrArg List.length hm
        rw [List.length_map] at h1
        have h2 := Sp.seenP_len (m.take k)
        rw [List.length_take] at h2
        omega
      obtain ⟨x, hx⟩ : ∃ x, x = m[k] := ⟨_, rfl⟩
      rw [← hx] at c0 c1 HVV ST xl
      have kb : (k : Int) < (m.length : Int) := by omega
      clear he hvv hx hm hO hb
      go_upto_region 5 with fail
      obtain ⟨w6, hw6⟩ : ∃ w6, w6 = wr.alloc (.cells #[.string (strOf x.1), .slice Av x.2.length cv] 51) := ⟨_, rfl⟩
      have X6 := Lib.hid (show isBlk w6 wr.heap.size 51 #[.string (strOf x.1), .slice Av x.2.length cv] by rw [hw6]; exact box_at wr _ _)
      have E6 := Lib.hid (show Ext wr w6 by rw [hw6]; exact Ext.alloc _ _)
      rw [← hw6]
      clear hw6 c0 c1
      have f1 := (X6.out.cell 1).trans rfl
      go_wp2_with fail
      refine (winner_calls x.2 Av cv w6 (HVV.out.ext (HB.out.trans E6.out)) xl).mono ?_
      rintro e w7 ⟨A7, c7, y, rfl, hb7⟩
      have E7 := Lib.hid (E6.out.trans hb7)
      have X7 := Lib.hid (X6.out.below hb7)
      obtain ⟨b, hbb⟩ : ∃ b, b = decide (Sp.live x.2 ≠ []) := ⟨_, rfl⟩
      rw [← hbb]
      have HBB := Lib.hid hbb
      clear hb7 f1 hbb
      go_upto_region 6 with fail
      obtain ⟨w8, hw8⟩ : ∃ w8, w8 = w7.alloc (.cells (verL A7 c7 y) 75) := ⟨_, rfl⟩
      have Y8 := Lib.hid (show isBlk w8 w7.heap.size 75 (verL A7 c7 y) by rw [hw8]; exact box_at w7 _ _)
      have E8 := Lib.hid (E7.out.trans (show Ext w7 w8 by rw [hw8]; exact Ext.alloc _ _))
      have X8 := Lib.hid (show isBlk w8 wr.heap.size 51 #[.string (strOf x.1), .slice Av x.2.length cv] by rw [hw8]; exact X7.out.alloc _)
      have B8 := Lib.hid (HB.out.trans E8.out)
      rw [← hw8]
      clear hw8
      have f0 := (X8.out.cell 0).trans rfl
      have f4 := (Y8.out.cell 4).trans rfl
      cases b with
      | false =>
        have ST2 := Lib.hid (show Sp.seenP (m.take (k + 1)) = Sp.seenP (m.take k) by
          have h : Sp.live x.2 = [] := by have := HBB.out; simpa using this
          rw [ST.out, if_pos h, List.append_nil])
        have O8 := Lib.hid (own_ext HO.out E8.out)
        go_wp2
        go_roundw
        case rel => exact ⟨k + 1, fs, by omega, by go_num, by rw [ST2.out]; exact HM.out, O8.out, B8.out⟩
        case measure => simp [intOf]; omega
      | true =>
        have ST2 := Lib.hid (show Sp.seenP (m.take (k + 1)) = Sp.seenP (m.take k) ++ [x.1] by
          have h : ¬ Sp.live x.2 = [] := by have := HBB.out; simpa using this
          rw [ST.out, if_neg h])
        have tokA : True := trivial
        go_wp2_with (have _t := tokA; at_builtin; refine app_new appFile rfl _ _ rfl w2.heap.size _ fs.length _ rfl (own_ext HO.out E8.out) #[.string (strOf x.1), .string (strOf y.data)] 107 1 rfl rfl (by intro u hu; simp at hu; rcases hu with rfl | rfl <;> rfl) (by decide) (by omega) B8.out.size ?_; intro g9 cap9 w9 hown9 hgr9 hb9 hbg9; have O9 := Lib.hid hown9; have B9 := Lib.hid (Below.trans B8.out hb9); clear tokA _t hown9 hgr9 hb9 hbg9)
        go_roundw
        case rel =>
          refine ⟨k + 1, fs ++ [(x.1, y.data)], by omega, by go_num, by rw [ST2.out, List.map_append, HM.out]; rfl, ?_, B9.out⟩
          rw [filesC_snoc, List.length_append]
          exact O9.out
        case measure => simp [intOf]; omega
    · obtain rfl : k = m.length := by omega
      rw [List.take_length] at hm
      obtain ⟨A3, c3, rfl, hc3⟩ := own_read hO
      clear hO HM
      go_wp2
      go_ret
      exact ⟨A3, c3, fs, rfl, hm, hc3, B2.out.trans HB.out⟩
end Go.Proofs.YteiblfcehlibpaaGreatDoor
namespace Go.Proofs.YteiblfcehlibpaaGreatDoor
open Go.RowKit

theorem below_drewN {B : Nat} {a w : World} (h : Below B a w) (n : Nat) : Below B a (w.drewN n) := ⟨h.os, h.tape, h.output, h.size, h.block⟩

set_option maxHeartbeats 1000000 in
theorem gpiece_calls (p s : ByteArray) (w : World) (hsh : ∃ m, w.cell? ⟨0, 0, none⟩ = some (.int .i64 m)) (hp : p.size < 4294967200) (hs : s.size < 4294967200) :
    Calls Tryz.prog 111 #[.string p, .string s] w fun e w' => e = .returned (.bool (Sp.gpiece p.data.toList s.data.toList)) ∧ Below w.heap.size w w' := by
  have hl : p.data.toList.length = p.size := by simp
  by_cases h1 : 24 < p.size
  · have F := Lib.hid (show Sp.gpiece p.data.toList s.data.toList = false by unfold Sp.gpiece; rw [hl, decide_eq_false (show ¬ p.size ≤ 24 by omega)]; rfl)
    have e1 : decide ((24 : Int) < (p.size : Int)) = true := by simp; omega
    clear h1 hl
    go_enter Tryz.func111, Tryz.ntmps111
    go_wp2_with fail
    go_ret
    exact ⟨ret_bool F.out.symm, Below.refl _ _⟩
  have e1 : decide ((24 : Int) < (p.size : Int)) = false := by simp; omega
  by_cases h2 : p.toList = [42, 42]
  · have F := Lib.hid (show Sp.gpiece p.data.toList s.data.toList = false by rw [toList_data] at h2; unfold Sp.gpiece; rw [h2]; rfl)
    clear h1 hl
    go_enter Tryz.func111, Tryz.ntmps111
    go_wp2_with fail
    go_ret
    exact ⟨ret_bool F.out.symm, Below.refl _ _⟩
  have e2 : (p.toList == [42, 42]) = false := by simpa using h2
  have hg : Sp.gpiece p.data.toList s.data.toList = (Sp.piece p.data.toList && Sp.name s.data.toList && Sp.pm p.data.toList s.data.toList) := by
    rw [toList_data] at h2
    unfold Sp.gpiece; rw [hl, decide_eq_true (show p.size ≤ 24 by omega), decide_eq_true h2]; rfl
  have G := Lib.hid hg
  clear hg h2 hl
  cases q1 : Sp.piece p.data.toList with
  | false =>
    have F := Lib.hid (show Sp.gpiece p.data.toList s.data.toList = false by rw [G.out, q1]; rfl)
    have PC := Lib.hid (piece_calls p w hsh (by omega))
    rw [q1] at PC
    clear G q1
    go_enter Tryz.func111, Tryz.ntmps111
    go_wp2_with (go_at_call 146; refine PC.out.mono ?_; rintro e w' ⟨rfl, rfl⟩)
    go_ret
    exact ⟨ret_bool F.out.symm, Below.refl _ _⟩
  | true =>
    have PC := Lib.hid (piece_calls p w hsh (by omega))
    rw [q1] at PC
    have NC := Lib.hid (name_calls s w (by omega))
    cases q2 : Sp.name s.data.toList with
    | false =>
      have F := Lib.hid (show Sp.gpiece p.data.toList s.data.toList = false by rw [G.out, q1, q2]; rfl)
      rw [q2] at NC
      clear G q1 q2
      go_enter Tryz.func111, Tryz.ntmps111
      go_wp2_with (first | (go_at_call 146; refine PC.out.mono ?_; rintro e w' ⟨rfl, rfl⟩) | (go_at_call 104; refine NC.out.mono ?_; rintro e w' ⟨rfl, rfl⟩))
      go_ret
      exact ⟨ret_bool F.out.symm, Below.refl _ _⟩
    | true =>
      have F := Lib.hid (show Sp.gpiece p.data.toList s.data.toList = Sp.pm p.data.toList s.data.toList by rw [G.out, q1, q2]; rfl)
      have hn : s.size ≤ 12 := by
        unfold Sp.name at q2; simp at q2; have := q2.1.1.1.2; omega
      rw [q2] at NC
      clear G q1 q2
      have PM := Lib.hid fun W hc => pm_calls w.heap.size (p.size + s.size) p s W (Nat.le_refl _) (by omega) hc
      go_enter Tryz.func111, Tryz.ntmps111
      go_wp2_with (first | (go_at_call 146; refine PC.out.mono ?_; rintro e w' ⟨rfl, rfl⟩) | (go_at_call 104; refine NC.out.mono ?_; rintro e w' ⟨rfl, rfl⟩) | fail)
      refine (PM.out _ (by go_simp)).mono ?_
      rintro e w' ⟨rfl, m, rfl⟩
      go_wp2
      go_ret
      exact ⟨ret_bool F.out.symm, below_drewN ((Below.refl _ _).alloc (Nat.le_refl _) _) _⟩

/-- What the variable of the closure holds. -/
abbrev lmFn (b : Nat) : Value := .func (.func 110) #[] #[.pointer (some ⟨b, 0, none⟩)]

/-- A row of texts at an address, if there are any. -/
def Rd (w : World) (A : Option Addr) (L : List ByteArray) : Prop := L ≠ [] → ∃ g o, A = some ⟨g, o, none⟩ ∧ ∀ k, (h : k < L.length) → w.cell? ⟨g, o + k, none⟩ = some (.string L[k])
theorem Rd.below {w w' : World} {A : Option Addr} {L : List ByteArray} (h : Rd w A L) (hb : Below w.heap.size w w') : Rd w' A L := fun hn => by
  obtain ⟨g, o, ha, hc⟩ := h hn
  refine ⟨g, o, ha, fun k hk => ?_⟩
  rw [hb.cell (p := ⟨g, o + k, none⟩) (World.block_lt_of_cell? _ _ (hc k hk))]; exact hc k hk
theorem Rd.tail {w : World} {g o : Nat} {x : ByteArray} {L : List ByteArray} (h : Rd w (some ⟨g, o, none⟩) (x :: L)) : Rd w (some ⟨g, o + 1, none⟩) L := fun _ => by
  obtain ⟨g', o', ha, hc⟩ := h (by simp)
  obtain ⟨rfl, rfl⟩ : g = g' ∧ o = o' := by simpa using ha
  refine ⟨g, o + 1, rfl, fun k hk => ?_⟩
  rw [show o + 1 + k = o + (k + 1) by omega]
  exact hc (k + 1) (by simpa using hk)
theorem Rd.nil (w : World) (A : Option Addr) : Rd w A [] := fun h => absurd rfl h
/-- All of a row's texts are short. -/
def Short (L : List ByteArray) : Prop := ∀ x ∈ L, x.size ≤ 10000

def LmSaid (b n : Nat) : Prop := ∀ (L M : List ByteArray) (A1 A2 : Option Addr) (c1 c2 : Nat) (w : World), L.length + M.length ≤ n → n ≤ 1000 → L.length ≤ c1 → M.length ≤ c2 → Rd w A1 L → Rd w A2 M → Short L → Short M →
  (∃ m, w.cell? ⟨0, 0, none⟩ = some (.int .i64 m)) → w.cell? ⟨b, 0, none⟩ = some (lmFn b) →
    Calls Tryz.prog 110 #[.slice A1 L.length c1, .slice A2 M.length c2, .pointer (some ⟨b, 0, none⟩)] w fun e w' => e = .returned (.bool (Sp.lm (L.map (·.data.toList)) (M.map (·.data.toList)))) ∧ Below w.heap.size w w'

set_option maxHeartbeats 1000000 in
theorem lm_nil (b : Nat) (M : List ByteArray) (A1 A2 : Option Addr) (c1 c2 : Nat) (w : World) (h2 : M.length ≤ c2) :
    Calls Tryz.prog 110 #[.slice A1 0 c1, .slice A2 M.length c2, .pointer (some ⟨b, 0, none⟩)] w fun e w' => e = .returned (.bool (Sp.lm [] (M.map (·.data.toList)))) ∧ Below w.heap.size w w' := by
  go_enter Tryz.func110, Tryz.ntmps110
  go_wp2
  go_ret
  exact ⟨ret_bool (by rw [Sp.lm]; cases M <;> simp <;> omega), Below.refl _ _⟩

/-- The rest of a row of texts behind its first one: where it lies, and how the model cuts it. -/
theorem tail_strs {w : World} {g o c n : Nat} {x : ByteArray} {L : List ByteArray} (hn : n = L.length) (h : Rd w (some ⟨g, o, none⟩) (x :: L)) (hc : n + 1 ≤ c) :
    ∃ A', Rd w A' L ∧ ∀ W, (Instr.slice 32 (.slice (some ⟨g, o, none⟩) (n + 1) c) (some (.int .i64 1)) none none).run Tryz.prog W = .ok (.slice A' n (c - 1)) W := by
  subst hn
  by_cases e : c = 1
  · obtain rfl : L = [] := by cases L with | nil => rfl | cons y t => simp at hc; omega
    refine ⟨some ⟨g, o, none⟩, Rd.nil _ _, fun W => ?_⟩
    subst e
    go_simp
  · refine ⟨some ⟨g, o + 1, none⟩, h.tail, fun W => ?_⟩
    have e' : ¬ c - 1 = 0 := by omega
    have e2 : (1 : Int) ≤ (L.length : Int) + 1 := by omega
    go_simp

theorem lm_cons_nil (c : Sp.Bs) (p : List Sp.Bs) : Sp.lm (c :: p) [] = if c = [42, 42] then Sp.lm p [] else false := by rw [Sp.lm]; rfl
theorem lm_cons (c d : Sp.Bs) (p s : List Sp.Bs) : Sp.lm (c :: p) (d :: s) = if c = [42, 42] then Sp.lm p (d :: s) || Sp.lm (c :: p) s else Sp.gpiece c d && Sp.lm p s := by
  simp only [Sp.lm, Sp.star]
  split <;> rfl

theorem keep_below {w W W' : World} (h : Below w.heap.size w W) (k : Below W.heap.size W W') : Below w.heap.size w W' := h.trans (k.mono h.size)
theorem keep_cell {W W' : World} {a : Addr} {v : Value} (h : W.cell? a = some v) (k : Below W.heap.size W W') : W'.cell? a = some v := by
  rw [k.cell (World.block_lt_of_cell? _ _ h)]; exact h

attribute [local go_sem] yUpon
/-- The worlds on the way: the closure's variable is as it was, and what was there ahead of the call. -/
def LmS (b : Nat) (w W : World) : Prop := W.cell? ⟨b, 0, none⟩ = some (lmFn b) ∧ Below w.heap.size w W

set_option maxHeartbeats 2000000 in
theorem lm_star (b n : Nat) (ih : LmSaid b n) (x : ByteArray) (L M : List ByteArray) (g o : Nat) (A2 : Option Addr) (c1 c2 : Nat) (w : World) (hn : L.length + 1 + M.length ≤ n + 1) (hn1 : n + 1 ≤ 1000) (h1 : L.length + 1 ≤ c1) (h2 : M.length ≤ c2)
    (r1 : Rd w (some ⟨g, o, none⟩) (x :: L)) (r2 : Rd w A2 M) (s1 : Short (x :: L)) (s2 : Short M) (hsh : ∃ m, w.cell? ⟨0, 0, none⟩ = some (.int .i64 m)) (hb : w.cell? ⟨b, 0, none⟩ = some (lmFn b)) (hx : x.toList = [42, 42]) :
    Calls Tryz.prog 110 #[.slice (some ⟨g, o, none⟩) (L.length + 1) c1, .slice A2 M.length c2, .pointer (some ⟨b, 0, none⟩)] w fun e w' => e = .returned (.bool (Sp.lm ((x :: L).map (·.data.toList)) (M.map (·.data.toList)))) ∧ Below w.heap.size w w' := by
  obtain ⟨A', rA, hsl⟩ := tail_strs (c := c1) rfl r1 h1
  have hx' : x.data.toList = [42, 42] := by rw [← toList_data]; exact hx
  have hx0 : w.cell? ⟨g, o, none⟩ = some (.string x) := by
    obtain ⟨g', o', ha, hc⟩ := r1 (by simp)
    obtain ⟨rfl, rfl⟩ : g = g' ∧ o = o' := by simpa using ha
    exact hc 0 (by simp)
  have C1 := Lib.hid fun W (hW : Below w.heap.size w W) => ih L M A' A2 (c1 - 1) c2 W (by omega) (by omega) (by omega) h2 (rA.below hW) (r2.below hW) (fun y hy => s1 y (by simp [hy])) s2 (max_kept hsh hW) (keep_cell hb hW)
  cases M with
  | nil =>
    have F := Lib.hid (show Sp.lm ((x :: L).map (·.data.toList)) (([] : List ByteArray).map (·.data.toList)) = Sp.lm (L.map (·.data.toList)) [] by
      rw [List.map_cons, List.map_nil, lm_cons_nil, if_pos hx'])
    obtain ⟨v, hv⟩ : ∃ v, Sp.lm (L.map (·.data.toList)) [] = v := ⟨_, rfl⟩
    simp only [List.map_nil, List.length_nil, hv] at C1
    have HV := Lib.hid hv
    clear r1 rA r2 s1 s2 hsh hx' hv h1 hn ih
    cases v
    all_goals
      go_enter Tryz.func110, Tryz.ntmps110
      go_wp2_with fail
      refine wp_region_det (LmS b w) (by kernel_rfl) (by kernel_rfl) ⟨hb, (Below.refl _ _).drew⟩ ?_
      repeat (first
        | (refine det_step (fun K hK => ?_)
           apply Exists.intro
           refine ⟨Or.inl ⟨rfl, fun W hS => ?_⟩, ?_⟩
           · have hc := hS.1
             have hz := hS.2
             go_simp
             first
             | exact rfl
             | exact ⟨rfl, hS⟩
             | (refine (C1.out _ hz).mono ?_; rintro e w' ⟨rfl, hb1⟩; exact ⟨rfl, keep_cell hc hb1, keep_below hz hb1⟩)
           go_simp
           refine hK _ ?_
           clear hK K)
        | (refine det_step (fun K hK => ?_); refine det_no' rfl ?_; go_simp; refine hK _ ?_; clear hK K))
      refine det_nil ?_
      intro w' hS
      go_wp2
      go_ret
      exact ⟨ret_bool (by rw [F.out, HV.out]), hS.2⟩
  | cons y t =>
    obtain ⟨g2, o2, rfl, hM⟩ := r2 (by simp)
    obtain ⟨B', rB, hsl2⟩ := tail_strs (c := c2) rfl r2 (by simpa using h2)
    have C2 := Lib.hid fun W (hW : Below w.heap.size w W) => ih (x :: L) t (some ⟨g, o, none⟩) B' c1 (c2 - 1) W (by simp at hn ⊢; omega) (by omega) (by simpa using h1) (by simp at h2; omega) (r1.below hW) (rB.below hW) s1 (fun z hz => s2 z (by simp [hz])) (max_kept hsh hW) (keep_cell hb hW)
    have F := Lib.hid (show Sp.lm ((x :: L).map (·.data.toList)) ((y :: t).map (·.data.toList)) = (Sp.lm (L.map (·.data.toList)) ((y :: t).map (·.data.toList)) || Sp.lm ((x :: L).map (·.data.toList)) (t.map (·.data.toList))) by
      rw [List.map_cons, List.map_cons, lm_cons, if_pos hx'])
    obtain ⟨v, hv⟩ : ∃ v, Sp.lm (L.map (·.data.toList)) ((y :: t).map (·.data.toList)) = v := ⟨_, rfl⟩
    obtain ⟨u, hu⟩ : ∃ u, Sp.lm ((x :: L).map (·.data.toList)) (t.map (·.data.toList)) = u := ⟨_, rfl⟩
    simp only [List.length_cons, hv] at C1
    simp only [List.length_cons, hu] at C2
    have HV := Lib.hid hv
    have HU := Lib.hid hu
    have hpos : decide ((0 : Int) < (t.length : Int) + 1) = true := decide_eq_true (by omega)
    simp only [List.length_cons]
    clear r1 rA r2 rB hM s1 s2 hsh hx' hv hu h1 h2 hn ih
    cases v
    · go_enter Tryz.func110, Tryz.ntmps110
      go_wp2_with fail
      refine wp_region_det (LmS b w) (by kernel_rfl) (by kernel_rfl) ⟨hb, (Below.refl _ _).drew⟩ ?_
      repeat (first
        | (refine det_step (fun K hK => ?_)
           apply Exists.intro
           refine ⟨Or.inl ⟨rfl, fun W hS => ?_⟩, ?_⟩
           · have hc := hS.1
             have hz := hS.2
             go_simp
             first
             | exact rfl
             | exact ⟨rfl, hS⟩
             | ((first | with_reducible refine (C1.out _ hz).mono ?_ | with_reducible refine (C2.out _ hz).mono ?_); rintro e w' ⟨rfl, hb1⟩; exact ⟨rfl, keep_cell hc hb1, keep_below hz hb1⟩)
           go_simp
           refine hK _ ?_
           clear hK K)
        | (refine det_step (fun K hK => ?_); refine det_no' rfl ?_; go_simp; refine hK _ ?_; clear hK K))
      refine det_nil ?_
      intro w' hS
      go_wp2
      go_ret
      exact ⟨ret_bool (by rw [F.out, HV.out, HU.out]; rfl), hS.2⟩
    · go_enter Tryz.func110, Tryz.ntmps110
      go_wp2_with fail
      refine wp_region_det (LmS b w) (by kernel_rfl) (by kernel_rfl) ⟨hb, (Below.refl _ _).drew⟩ ?_
      repeat (first
        | (refine det_step (fun K hK => ?_)
           apply Exists.intro
           refine ⟨Or.inl ⟨rfl, fun W hS => ?_⟩, ?_⟩
           · have hc := hS.1
             have hz := hS.2
             go_simp
             first
             | exact rfl
             | exact ⟨rfl, hS⟩
             | ((with_reducible refine (C1.out _ hz).mono ?_); rintro e w' ⟨rfl, hb1⟩; exact ⟨rfl, keep_cell hc hb1, keep_below hz hb1⟩)
           go_simp
           refine hK _ ?_
           clear hK K)
        | (refine det_step (fun K hK => ?_); refine det_no' rfl ?_; go_simp; refine hK _ ?_; clear hK K))
      refine det_nil ?_
      intro w' hS
      go_wp2
      go_ret
      exact ⟨ret_bool (by rw [F.out, HV.out]; rfl), hS.2⟩

set_option maxHeartbeats 2000000 in
theorem lm_other (b n : Nat) (ih : LmSaid b n) (x : ByteArray) (L M : List ByteArray) (g o : Nat) (A2 : Option Addr) (c1 c2 : Nat) (w : World) (hn : L.length + 1 + M.length ≤ n + 1) (hn1 : n + 1 ≤ 1000) (h1 : L.length + 1 ≤ c1) (h2 : M.length ≤ c2)
    (r1 : Rd w (some ⟨g, o, none⟩) (x :: L)) (r2 : Rd w A2 M) (s1 : Short (x :: L)) (s2 : Short M) (hsh : ∃ m, w.cell? ⟨0, 0, none⟩ = some (.int .i64 m)) (hb : w.cell? ⟨b, 0, none⟩ = some (lmFn b)) (hx : ¬ x.toList = [42, 42]) :
    Calls Tryz.prog 110 #[.slice (some ⟨g, o, none⟩) (L.length + 1) c1, .slice A2 M.length c2, .pointer (some ⟨b, 0, none⟩)] w fun e w' => e = .returned (.bool (Sp.lm ((x :: L).map (·.data.toList)) (M.map (·.data.toList)))) ∧ Below w.heap.size w w' := by
  obtain ⟨A', rA, hsl⟩ := tail_strs (c := c1) rfl r1 h1
  have hx' : ¬ x.data.toList = [42, 42] := by rw [← toList_data]; exact hx
  have hxb : (x.toList == [42, 42]) = false := by simpa using hx
  have hx0 : w.cell? ⟨g, o, none⟩ = some (.string x) := by
    obtain ⟨g', o', ha, hc⟩ := r1 (by simp)
    obtain ⟨rfl, rfl⟩ : g = g' ∧ o = o' := by simpa using ha
    exact hc 0 (by simp)
  cases M with
  | nil =>
    have F := Lib.hid (show Sp.lm ((x :: L).map (·.data.toList)) (([] : List ByteArray).map (·.data.toList)) = false by
      rw [List.map_cons, List.map_nil, lm_cons_nil, if_neg hx'])
    clear r1 rA r2 s1 s2 hsh hx' hx h1 hn ih
    go_enter Tryz.func110, Tryz.ntmps110
    go_wp2_with fail
    go_quiet (fail)
    go_wp2
    go_ret
    exact ⟨ret_bool F.out.symm, below_drewN (Below.refl _ _) _⟩
  | cons y t =>
    obtain ⟨g2, o2, rfl, hM⟩ := r2 (by simp)
    obtain ⟨B', rB, hsl2⟩ := tail_strs (c := c2) rfl r2 (by simpa using h2)
    have hy0 : w.cell? ⟨g2, o2, none⟩ = some (.string y) := hM 0 (by simp)
    have C0 := Lib.hid fun W (hW : Below w.heap.size w W) => gpiece_calls x y W (max_kept hsh hW) (by have := s1 x (by simp); omega) (by have := s2 y (by simp); omega)
    have C1 := Lib.hid fun W (hW : Below w.heap.size w W) => ih L t A' B' (c1 - 1) (c2 - 1) W (by simp at hn; omega) (by omega) (by omega) (by simp at h2; omega) (rA.below hW) (rB.below hW) (fun z hz => s1 z (by simp [hz])) (fun z hz => s2 z (by simp [hz])) (max_kept hsh hW) (keep_cell hb hW)
    have F := Lib.hid (show Sp.lm ((x :: L).map (·.data.toList)) ((y :: t).map (·.data.toList)) = (Sp.gpiece x.data.toList y.data.toList && Sp.lm (L.map (·.data.toList)) (t.map (·.data.toList))) by
      rw [List.map_cons, List.map_cons, lm_cons, if_neg hx'])
    obtain ⟨v, hv⟩ : ∃ v, Sp.gpiece x.data.toList y.data.toList = v := ⟨_, rfl⟩
    obtain ⟨u, hu⟩ : ∃ u, Sp.lm (L.map (·.data.toList)) (t.map (·.data.toList)) = u := ⟨_, rfl⟩
    simp only [hv] at C0
    simp only [hu] at C1
    have HV := Lib.hid hv
    have HU := Lib.hid hu
    have hpos : decide ((0 : Int) < (t.length : Int) + 1) = true := decide_eq_true (by omega)
    simp only [List.length_cons]
    clear r1 rA r2 rB hM s1 s2 hsh hx' hx hv hu h1 h2 hn ih
    cases v
    · go_enter Tryz.func110, Tryz.ntmps110
      go_wp2_with fail
      refine wp_region_det (LmS b w) (by kernel_rfl) (by kernel_rfl) ⟨hb, (Below.refl _ _).drew⟩ ?_
      repeat (first
        | (refine det_step (fun K hK => ?_)
           apply Exists.intro
           refine ⟨Or.inl ⟨rfl, fun W hS => ?_⟩, ?_⟩
           · have hc := hS.1
             have hz := hS.2
             have hx1 := keep_cell hx0 hz
             have hy1 := keep_cell hy0 hz
             go_simp
             first
             | exact rfl
             | exact ⟨rfl, hS⟩
             | ((with_reducible refine (C0.out _ hz).mono ?_); rintro e w' ⟨rfl, hb1⟩; exact ⟨rfl, keep_cell hc hb1, keep_below hz hb1⟩)
           go_simp
           refine hK _ ?_
           clear hK K)
        | (refine det_step (fun K hK => ?_); refine det_no' rfl ?_; go_simp; refine hK _ ?_; clear hK K))
      refine det_nil ?_
      intro w' hS
      go_wp2
      go_ret
      exact ⟨ret_bool (by rw [F.out, HV.out]; rfl), hS.2⟩
    · go_enter Tryz.func110, Tryz.ntmps110
      go_wp2_with fail
      refine wp_region_det (LmS b w) (by kernel_rfl) (by kernel_rfl) ⟨hb, (Below.refl _ _).drew⟩ ?_
      repeat (first
        | (refine det_step (fun K hK => ?_)
           apply Exists.intro
           refine ⟨Or.inl ⟨rfl, fun W hS => ?_⟩, ?_⟩
           · have hc := hS.1
             have hz := hS.2
             have hx1 := keep_cell hx0 hz
             have hy1 := keep_cell hy0 hz
             go_simp
             first
             | exact rfl
             | exact ⟨rfl, hS⟩
             | ((first | with_reducible refine (C0.out _ hz).mono ?_ | with_reducible refine (C1.out _ hz).mono ?_); rintro e w' ⟨rfl, hb1⟩; exact ⟨rfl, keep_cell hc hb1, keep_below hz hb1⟩)
           go_simp
           refine hK _ ?_
           clear hK K)
        | (refine det_step (fun K hK => ?_); refine det_no' rfl ?_; go_simp; refine hK _ ?_; clear hK K))
      refine det_nil ?_
      intro w' hS
      go_wp2
      go_ret
      exact ⟨ret_bool (by rw [F.out, HV.out, HU.out]; rfl), hS.2⟩

theorem lm_calls (b : Nat) : ∀ n, LmSaid b n := by
  intro n
  induction n with
  | zero =>
    intro L M A1 A2 c1 c2 w hn _ h1 h2 _ _ _ _ _ _
    obtain rfl : L = [] := List.eq_nil_of_length_eq_zero (by omega)
    exact lm_nil b M A1 A2 c1 c2 w h2
  | succ n ih =>
    intro L M A1 A2 c1 c2 w hn hn1 h1 h2 r1 r2 s1 s2 hsh hb
    cases L with
    | nil => exact lm_nil b M A1 A2 c1 c2 w h2
    | cons x L =>
      obtain ⟨g, o, rfl, _⟩ := r1 (by simp)
      by_cases hx : x.toList = [42, 42]
      · exact lm_star b n ih x L M g o A2 c1 c2 w (by simpa using hn) hn1 (by simpa using h1) h2 r1 r2 s1 s2 hsh hb hx
      · exact lm_other b n ih x L M g o A2 c1 c2 w (by simpa using hn) hn1 (by simpa using h1) h2 r1 r2 s1 s2 hsh hb hx
end Go.Proofs.YteiblfcehlibpaaGreatDoor
