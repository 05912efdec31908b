/- Walks: a strings.Builder within a coder.Writer. -/
import Derived.Test.YtbjdgiocehoaiaaDoorCountA
import Derived.Test.YtbjdgiocehoaiaaDoorBox
import Derived.Lib.Builder
import Derived.Lib.AppendStr
import Derived.Laws.Externs
namespace Go.Proofs.YtbjdgiocehoaiaaDoor
open Go.RowKit
theorem info_of {t n : Nat} (h : (Tryd.prog.info? t).map (·.size) = some n) : ∃ j, Tryd.prog.info? t = some j ∧ j.size = n := Option.map_eq_some_iff.1 h
set_option maxRecDepth 100000 in
set_option maxHeartbeats 1000000 in
theorem cc_used (g : Nat) (w : World) (v e : Value) (h : isBlk w g 53 #[.pointer (some ⟨g, 0, none⟩), v, e]) :
    Calls Tryd.prog 99 #[.pointer (some ⟨g, 0, none⟩)] w fun e' w' => e' = .returned (.tuple #[]) ∧ w = w' := by
  obtain ⟨j, hj, _⟩ := info_of (t := 51) (n := 2) (by kernel_rfl)
  have c0 := (h.cell 0).trans rfl
  go_enter Tryd.func99, Tryd.ntmps99
  go_wp2_with fail
  rw [Lib.run_neq_ptr_same _ _ Tryd.underlying48 hj]
  go_wp2_with fail
  go_end0
  exact ⟨rfl, rfl⟩
set_option maxRecDepth 100000 in
set_option maxHeartbeats 1000000 in
theorem cc_fresh (g : Nat) (w : World) (v e : Value) (h : isBlk w g 53 #[.pointer none, v, e]) :
    Calls Tryd.prog 99 #[.pointer (some ⟨g, 0, none⟩)] w fun e' w' => e' = .returned (.tuple #[]) ∧ w' = w.setCell ⟨g, 0, none⟩ (.pointer (some ⟨g, 0, none⟩)) := by
  obtain ⟨j, hj, hjs⟩ := info_of (t := 51) (n := 2) (by kernel_rfl)
  have c0 := (h.cell 0).trans rfl
  have f0 := h.frozen 0
  have hsh : w.shape? g = some (53, 3) := h.shape
  go_enter Tryd.func99, Tryd.ntmps99
  go_wp2_with fail
  rw [Lib.run_to_unsafe w ⟨g, 0, none⟩ Tryd.underlying48 Tryd.underlying118 hj (by rw [hjs]; decide) hsh (Nat.zero_lt_succ 2)]
  simp only [Result.andThen]
  rw [Oper.upon_value]
  go_wp2_with fail
  rw [run_callFunc_extern Tryd.func109 (by kernel_rfl) (by kernel_rfl) (by kernel_rfl) (e := Extern.AbiNoEscape.same) (by kernel_rfl)]
  rw [Lib.run_noEscape]
  simp only [Result.andThen]
  rw [Oper.upon_value]
  go_wp2_with fail
  rw [Lib.run_from_unsafe w ⟨g, 0, none⟩ Tryd.underlying118 Tryd.underlying48 hj hsh (by kernel_rfl)]
  simp only [Result.andThen]
  rw [Oper.upon_value]
  go_wp2_with fail
  go_end0
  exact ⟨rfl, rfl⟩
/-- Blocks of other types than a writer's are as they were. -/
def Kept (w w' : World) : Prop := ∀ k t cs, isBlk w k t cs → t ≠ 5 → t ≠ 53 → isBlk w' k t cs
theorem Kept.refl (w : World) : Kept w w := fun _ _ _ h _ _ => h
theorem Kept.trans {a b c : World} (h : Kept a b) (h' : Kept b c) : Kept a c := fun k t cs hk h1 h2 => h' k t cs (h k t cs hk h1 h2) h1 h2
theorem Kept.below {w w' : World} (h : Below w.heap.size w w') : Kept w w' := fun _ _ _ hk _ _ => hk.below h
theorem Kept.set {w : World} {g : Nat} {cs : Array Value} (h : isBlk w g 53 cs) (i : Nat) (u : Value) : Kept w (w.setCell ⟨g, i, none⟩ u) := fun k t cs' hk _ h2 => by
  have hne : k ≠ g := by
    rintro rfl
    rw [isBlk, show w.heap[k]? = _ from h] at hk
    injection hk with hk
    injection hk with _ h5
    exact h2 h5.symm
  exact hk.far hne u
theorem Kept.grown {w w' : World} {B n : Nat} {v : Value} {xs : List Value} (h : w.ownsRow B 5 1 v n xs) (hg : w.grownBy w' v.ownBlock) : Kept w w' := fun k t cs hk h1 _ => by
  refine (hg.block k hk.lt (fun e => ?_)).trans hk
  rcases h.2 with ⟨hn, _⟩ | ⟨g', cap', cur, hv, _, hgg, _⟩
  · rw [hn] at e; cases e
  · rw [hv] at e
    have e3 : k = g' := by simpa [Value.ownBlock] using e
    rw [← e3, show w.heap[k]? = _ from hk] at hgg
    injection hgg with hgg
    injection hgg with _ h5
    exact h1 h5
/-- A writer: the bytes that were put, and what is wrong. -/
def IsW (B g : Nat) (l : List UInt8) (e : Int) (w : World) : Prop :=
  B ≤ g ∧ ∃ p v, (p = .pointer none ∨ p = .pointer (some ⟨g, 0, none⟩)) ∧ isBlk w g 53 #[p, v, .int .i64 e] ∧ w.ownsRow B 5 1 v l.length (l.map byteV) ∧ v.ownBlock ≠ some g
/-- A row of the call's own stays while a cell of another block is written. -/
theorem own_far {w : World} {base g j n : Nat} {e : TypeId} {size : Nat} {v : Value} {xs : List Value} (h : w.ownsRow base e size v n xs) (hne : v.ownBlock ≠ some g) (u : Value) : (w.setCell ⟨g, j, none⟩ u).ownsRow base e size v n xs := by
  refine ⟨h.1, ?_⟩
  rcases h.2 with hn | ⟨g', cap', cur, hv, hbg, hgg, rest⟩
  · exact .inl hn
  · refine .inr ⟨g', cap', cur, hv, hbg, ?_, rest⟩
    rw [Below.heap_setCell _ _ _ _ (fun e => hne (by rw [hv]; simp [Value.ownBlock] at *; exact e))]; exact hgg
theorem cc_calls (B g : Nat) (p v e : Value) (xs : List Value) (n : Nat) (w : World) (hB : B ≤ g) (hp : p = .pointer none ∨ p = .pointer (some ⟨g, 0, none⟩)) (hb : isBlk w g 53 #[p, v, e]) (hown : w.ownsRow B 5 1 v n xs) (hne : v.ownBlock ≠ some g) :
    Calls Tryd.prog 99 #[.pointer (some ⟨g, 0, none⟩)] w fun e' w' => e' = .returned (.tuple #[]) ∧ isBlk w' g 53 #[.pointer (some ⟨g, 0, none⟩), v, e] ∧ w'.ownsRow B 5 1 v n xs ∧ Below B w w' ∧ w'.heap.size = w.heap.size ∧ Kept w w' := by
  rcases hp with rfl | rfl
  · refine (cc_fresh g w v e hb).mono ?_
    rintro e' w' ⟨rfl, rfl⟩
    exact ⟨rfl, hb.put 0 _ rfl, own_far hown hne _, (Below.refl _ _).setCell hB _, by simp, Kept.set hb 0 _⟩
  · refine (cc_used g w v e hb).mono ?_
    rintro e' w' ⟨rfl, rfl⟩
    exact ⟨rfl, hb, hown, Below.refl _ _, rfl, Kept.refl _⟩
theorem own_slice {w : World} {base n : Nat} {e : TypeId} {size : Nat} {v : Value} {xs : List Value} (h : w.ownsRow base e size v n xs) : ∃ x m k, v = .slice x m k := by
  rcases h.2 with ⟨hn, _⟩ | ⟨g', cap', cur, hv, _⟩
  · exact ⟨none, 0, 0, hn⟩
  · exact ⟨_, _, _, hv⟩
theorem strCells_eq (s : ByteArray) : Lib.strCells s = s.data.toList.map byteV := by
  unfold Lib.strCells; rfl
set_option maxRecDepth 100000 in
set_option maxHeartbeats 1000000 in
theorem ws_calls (B g : Nat) (l : List UInt8) (e : Int) (s : ByteArray) (w : World) (h : IsW B g l e w) (hlen : l.length + s.size ≤ 140737488355328) (hBw : B ≤ w.heap.size) :
    Calls Tryd.prog 85 #[.pointer (some ⟨g, 0, none⟩), .string s] w fun e' w' => e' = .returned (.tuple #[.int .i64 s.size, .nilIface]) ∧ IsW B g (l ++ s.data.toList) e w' ∧ Below B w w' ∧ Kept w w' := by
  obtain ⟨hB, p, v, hp, hblk, hown, hne⟩ := h
  obtain ⟨i0, hi, hz0, hz1, hz2⟩ := info_parts (show (Tryd.prog.info? 5).map (fun i => (i.zero, i.size, i.bytes)) = some (some (.int .u8 0), 1, 1) by kernel_rfl)
  have C := Lib.hid (cc_calls B g p v (.int .i64 e) _ _ w hB hp hblk hown hne)
  have HL := Lib.hid hblk.lt
  clear hp hblk hown
  go_enter Tryd.func85, Tryd.ntmps85
  go_wp2_with (first
    | (go_at_call 99; refine C.out.mono ?_; rintro e' w1 ⟨rfl, hb1, hown1, hbl1, hsz1, hk1⟩; have c0 := (hb1.cell 0).trans rfl; have c1 := (hb1.cell 1).trans rfl)
    | (refine Lib.wpList_append_own_string _ rfl _ _ 49 9 rfl B 5 i0 Tryd.underlying49 Tryd.underlying9 hi hz0 hz1 hz2 _ _ _ rfl hown1 s rfl ?c3 ?c4 ?c5 ?_))
  case c3 => unfold maxLen; omega
  case c4 => exact hlen
  case c5 => have := hbl1.size; omega
  intro v' w2 hown' hgrow _
  have hb2 : isBlk w2 g 53 #[.pointer (some ⟨g, 0, none⟩), v, .int .i64 e] := (hgrow.block g hb1.lt (fun e => hne e.symm)).trans hb1
  have hbl2 : Below B w w2 := hbl1.grown hgrow (Nat.le_trans hBw hbl1.size) (fun k e => hown1.lt k e |>.1)
  obtain ⟨x2, m2, k2, rfl⟩ : ∃ x m k, v' = .slice x m k := own_slice hown'
  have d1 := (hb2.cell 1).trans rfl
  have g1 := hb2.frozen 1
  clear c0 c1
  go_wp2_with fail
  go_ret2
  have HNE : (Value.slice x2 m2 k2).ownBlock ≠ some g := by
    intro e2
    rcases hown'.2 with ⟨hn, _⟩ | ⟨g', cap', cur, hv, _, hgg, _⟩
    · rw [hn] at e2; cases e2
    · rw [hv] at e2
      have e3 : g' = g := by simpa [Value.ownBlock] using e2
      rw [e3, show w2.heap[g]? = _ from hb2] at hgg
      injection hgg with hgg
      injection hgg with _ h5
      exact absurd h5 (by decide)
  refine ⟨rfl, ⟨hB, _, _, .inr rfl, hb2.put 1 _ rfl, ?_, HNE⟩, hbl2.setCell hB _, (hk1.trans (Kept.grown hown1 hgrow)).trans (Kept.set hb2 1 _)⟩
  rw [List.length_append, List.map_append, ← strCells_eq, show s.data.toList.length = s.size by simp]
  exact own_far hown' HNE _
end Go.Proofs.YtbjdgiocehoaiaaDoor
