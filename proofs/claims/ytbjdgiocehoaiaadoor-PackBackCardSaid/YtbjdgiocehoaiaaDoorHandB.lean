/- What the walk meets: a slice that is made; one of its elements that is written. -/
import Derived.Test.YtbjdgiocehoaiaaDoorHand
namespace Go.Proofs.YtbjdgiocehoaiaaDoor
open Go.RowKit

/-- What make asks of a slice type t of elements e of one cell, z where nothing was written, of so many bytes. -/
def MakeStat (P : Program) (t e : TypeId) (z : Value) (bytes : Nat) : Prop :=
  P.underlying t = some (.slice e) ∧ z.cells = #[z] ∧ ∃ i, P.info? e = some i ∧ i.zero = some z ∧ i.size = 1 ∧ i.bytes = bytes

section
variable {P : Program} {ops : Array Oper} {rest : List Oper} {o : Oper} {a : Act} {Q : Exit → Act → World → Prop} {w : World}

theorem make_new {t e : TypeId} {z : Value} {bytes : Nat} (hst : MakeStat P t e z bytes) (hgd : o.guard = none) (l c : Operand) (ho : o.op = .makeSlice t l c) (n : Nat)
    (hl : a.eval l = .int .i64 (n : Int)) (hc : a.eval c = .int .i64 (n : Int)) (hb : bytes * n ≤ 281474976710656) (hm : n ≤ maxLen)
    (h : ∀ g w', w.heap.size ≤ g → w'.ownsRow w.heap.size e 1 (.slice (some ⟨g, 0, none⟩) n n) n (List.replicate n z) → Below w.heap.size w w' → wpList P ops Q rest (a.put o.dst (.slice (some ⟨g, 0, none⟩) n n)) w') :
    wpList P ops Q (o :: rest) a w := by
  obtain ⟨ht, hz, i, hi, hz0, hsz, hby⟩ := hst
  obtain ⟨w', hrun, hown, hg⟩ := run_make_full (P := P) w w.heap.size t e i z 1 ht hi hz0 hsz .i64 .i64 n (by rw [hby]; exact hb) hm (Nat.le_refl _)
  rw [Nat.mul_one, hz, toList_madeCells_one] at hown
  refine wpList_plain hgd fun K hK => ?_
  unfold Oper.wp
  have he : (execOp a.eval o).run P w = .ok (.value (.slice (some ⟨w.heap.size, 0, none⟩) n n)) w' := by
    simp only [execOp, ho, hl, hc]
    simp [hrun]
  rw [he]
  exact hK _ _ (h w.heap.size w' (Nat.le_refl _) hown ((Below.refl _ _).grown hg (Nat.le_refl _) fun k hk => by cases hk))
end

theorem owned_get {w : World} {base g n cap : Nat} {e : TypeId} {xs : List Value} (h : w.ownsRow base e 1 (.slice (some ⟨g, 0, none⟩) n cap) n xs) (j : Nat) (hj : j < n) (hl : j < xs.length) : w.cell? ⟨g, j, none⟩ = some xs[j] := by
  rw [h.cellAt j (by omega), List.getElem?_eq_getElem hl]
theorem owned_below {w w' : World} {base g n cap : Nat} {e : TypeId} {size : Nat} {xs : List Value} (h : w.ownsRow base e size (.slice (some ⟨g, 0, none⟩) n cap) n xs) (hb : Below w.heap.size w w') : w'.ownsRow base e size (.slice (some ⟨g, 0, none⟩) n cap) n xs := by
  have hl := (h.lt g rfl).2
  refine ⟨h.1, ?_⟩
  rcases h.2 with hn | ⟨g', cap', cur, hv, hbg, hgg, rest⟩
  · exact .inl hn
  · refine .inr ⟨g', cap', cur, hv, hbg, ?_, rest⟩
    cases hv
    rw [hb.block _ hl]; exact hgg
/-- A row of the call's own stays while another block is written. -/
theorem owned_far {w : World} {base g g2 j n cap : Nat} {e : TypeId} {size : Nat} {xs : List Value} (h : w.ownsRow base e size (.slice (some ⟨g, 0, none⟩) n cap) n xs) (hne : g ≠ g2) (u : Value) : (w.setCell ⟨g2, j, none⟩ u).ownsRow base e size (.slice (some ⟨g, 0, none⟩) n cap) n xs := by
  refine ⟨h.1, ?_⟩
  rcases h.2 with hn | ⟨g', cap', cur, hv, hbg, hgg, rest⟩
  · exact .inl hn
  · refine .inr ⟨g', cap', cur, hv, hbg, ?_, rest⟩
    cases hv
    rw [Below.heap_setCell _ _ _ _ hne]; exact hgg
theorem owned_drew {w : World} {base n : Nat} {e : TypeId} {size : Nat} {v : Value} {xs : List Value} (h : w.ownsRow base e size v n xs) : w.drew.ownsRow base e size v n xs := h
theorem owned_drewN {w : World} {base n : Nat} {e : TypeId} {size : Nat} {v : Value} {xs : List Value} (h : w.ownsRow base e size v n xs) (m : Nat) : (w.drewN m).ownsRow base e size v n xs := h

end Go.Proofs.YtbjdgiocehoaiaaDoor
