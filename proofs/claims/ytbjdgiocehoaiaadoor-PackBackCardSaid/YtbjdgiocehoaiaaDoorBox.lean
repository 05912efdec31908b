/- What the walk meets: a variable in memory, a block of its own. -/
import Derived.Test.YtbjdgiocehoaiaaDoorHand
namespace Go.Proofs.YtbjdgiocehoaiaaDoor
open Go.RowKit
/-- Block g is such cells. -/
abbrev isBlk (w : World) (g : Nat) (t : TypeId) (cs : Array Value) : Prop := w.heap[g]? = some (.cells cs t (0, 0))
section
variable {P : Program} {ops : Array Oper} {rest : List Oper} {o : Oper} {a : Act} {Q : Exit → Act → World → Prop} {w : World}
theorem box_new {cs : Array Value} {t : TypeId} (hgd : o.guard = none)
    (hrun : (execOp a.eval o).run P w = .ok (.value (.pointer (some ⟨w.heap.size, 0, none⟩))) (w.alloc (.cells cs t (0, 0))))
    (h : ∀ g w', w.heap.size ≤ g → isBlk w' g t cs → Below w.heap.size w w' → wpList P ops Q rest (a.put o.dst (.pointer (some ⟨g, 0, none⟩))) w') : wpList P ops Q (o :: rest) a w := by
  refine wpList_plain hgd fun K hK => ?_
  unfold Oper.wp
  rw [hrun]
  exact hK _ _ (h w.heap.size _ (Nat.le_refl _) (heap_alloc_new w _) ((Below.refl _ _).alloc (Nat.le_refl _) _))
/-- For an arm of the walk's: this operation is an allocation of type t. -/
theorem at_alloc {t : TypeId} (_ho : o.op = .alloc t) (h : wpList P ops Q (o :: rest) a w) : wpList P ops Q (o :: rest) a w := h
theorem at_box {t : TypeId} {x : Operand} (_ho : o.op = .box t x) (h : wpList P ops Q (o :: rest) a w) : wpList P ops Q (o :: rest) a w := h
end
theorem isBlk.lt {w : World} {g : Nat} {t : TypeId} {cs : Array Value} (h : isBlk w g t cs) : g < w.heap.size := by
  rcases Nat.lt_or_ge g w.heap.size with h1 | h1
  · exact h1
  · rw [isBlk, Array.getElem?_eq_none h1] at h; cases h
theorem isBlk.cell {w : World} {g : Nat} {t : TypeId} {cs : Array Value} (h : isBlk w g t cs) (i : Nat) : w.cell? ⟨g, i, none⟩ = cs[i]? := cell_of_row w g i cs t (0, 0) h
theorem isBlk.at {w : World} {g : Nat} {t : TypeId} {cs : Array Value} (h : isBlk w g t cs) (i : Nat) (hi : i < cs.size) : w.cell? ⟨g, i, none⟩ = some cs[i] := by rw [h.cell i, Array.getElem?_eq_getElem hi]
theorem isBlk.frozen {w : World} {g : Nat} {t : TypeId} {cs : Array Value} (h : isBlk w g t cs) (i : Nat) : w.frozen? ⟨g, i, none⟩ = false := by simp [World.frozen?, h]
theorem isBlk.shape {w : World} {g : Nat} {t : TypeId} {cs : Array Value} (h : isBlk w g t cs) : w.shape? g = some (t, cs.size) := by simp [World.shape?, h]
theorem isBlk.below {w w1 : World} {g : Nat} {t : TypeId} {cs : Array Value} (h : isBlk w g t cs) (hb : Below w.heap.size w w1) : isBlk w1 g t cs := (hb.block g h.lt).trans h
theorem isBlk.drew {w : World} {g : Nat} {t : TypeId} {cs : Array Value} (h : isBlk w g t cs) : isBlk w.drew g t cs := h
theorem isBlk.drewN {w : World} {g : Nat} {t : TypeId} {cs : Array Value} (h : isBlk w g t cs) (n : Nat) : isBlk (w.drewN n) g t cs := h
theorem isBlk.alloc {w : World} {g : Nat} {t : TypeId} {cs : Array Value} (h : isBlk w g t cs) (o : Obj) : isBlk (w.alloc o) g t cs := (Below.heap_alloc w o g h.lt).trans h
theorem isBlk.put {w : World} {g : Nat} {t : TypeId} {cs cs' : Array Value} (h : isBlk w g t cs) (i : Nat) (u : Value) (e : cs.setIfInBounds i u = cs') : isBlk (w.setCell ⟨g, i, none⟩ u) g t cs' := by
  subst e
  have hl := h.lt
  unfold isBlk World.setCell at *
  rw [Array.getElem?_eq_getElem hl] at h
  rw [Array.getElem?_eq_getElem (by simpa using hl), Array.getElem_modify]
  simp only [Option.some.injEq] at h ⊢
  simp [h]
theorem isBlk.far {w : World} {g g2 j : Nat} {t : TypeId} {cs : Array Value} (h : isBlk w g t cs) (hne : g ≠ g2) (u : Value) : isBlk (w.setCell ⟨g2, j, none⟩ u) g t cs := by
  unfold isBlk; rw [Below.heap_setCell _ _ _ _ hne]; exact h
/-- What was there ahead of a call that makes memory only is there behind it. -/
theorem cellKept {W W' : World} {a : Addr} {v : Value} (h : W.cell? a = some v) (k : Below W.heap.size W W') : W'.cell? a = some v := by
  rw [k.cell (World.block_lt_of_cell? _ _ h)]; exact h
theorem below_then {B : Nat} {a w w' : World} (h : Below B a w) (hB : B ≤ w.heap.size) (h' : Below w.heap.size w w') : Below B a w' := h.trans (h'.mono hB)
end Go.Proofs.YtbjdgiocehoaiaaDoor
