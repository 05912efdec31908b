/- Files that come in. -/
import Derived.Test.YtbjdgiocehoaiaaDoorPackA
import Derived.Deep.SlicePairs
import Derived.Carry
import Derived.WideShapes
import Derived.ChangeArms
namespace Go.Proofs.YtbjdgiocehoaiaaDoor
open Go.RowKit Go.ChangeShapes Go.WideShapes Go.Deep
theorem addr_add (g o j : Nat) : (⟨g, o, none⟩ : Addr).add j = ⟨g, o + j, none⟩ := by simp [Addr.add]
/-- What a text's cell holds. -/
def textOf : Value → Sp.Bs
  | .string s => s.data.toList
  | _ => []
theorem open_files {P : Program} {ts : TypeId} (hts : P.underlying ts = some .string) {H : Type} {enc : TypeId × Value → H} {W : World} {b0 : Nat} {t e : TypeId} {f0 f1 : Field} {v : Value} {d : DataW H} {ps : List MemPlace} (ht : P.underlying t = some (.slice e)) (he : P.underlying e = some (.struct #[f0, f1]))
    (ce : P.cellsOf e = 2) (o0 : f0.offset = 0) (o1 : f1.offset = 1) (t0 : f0.type = ts) (t1 : f1.type = ts) (hs : P.cellsOf ts = 1)
    (hval : Value.okWide P W .any b0 t v) (h : DataW.Trod enc P W 0 (fun _ => true) true t v d ps) : ∃ (l : List Sp.File) (A : Option Addr) (cap : Nat), v = .slice A l.length cap ∧ FsA W A l := by
  obtain ⟨a0, len0, cap0, rfl⟩ := okWide_slice ht hval
  obtain ⟨fuel, hf⟩ := h
  rcases open_slice_pairs ht he ce o0 o1 (by rw [t0]; exact hs) (by rw [t1]; exact hs) hf with ⟨hc, _⟩ | ⟨a, len, cap, m, n, V0, V1, D0, D1, P0, P1, hc, _, hl, hm, hmm, _, hall⟩
  · simp [Value.cells] at hc
    obtain ⟨rfl, rfl, rfl⟩ := hc
    exact ⟨[], none, 0, rfl, fun h => absurd rfl h⟩
  · simp [Value.cells] at hc
    obtain ⟨rfl, rfl, rfl⟩ := hc
    simp only [if_true] at hmm
    subst hmm
    obtain ⟨g, o, spot⟩ := a
    refine ⟨(List.range len0).map fun i => (textOf (V0 i), textOf (V1 i)), some ⟨g, o, spot⟩, m, by simp, fun hn => ?_⟩
    have hpos : 0 < len0 := by
      rcases Nat.eq_zero_or_pos len0 with h | h
      · subst h; exact absurd rfl hn
      · exact h
    have hspot : spot = none := by simpa [Addr.add] using World.cell?_spot (hall 0 (by omega)).1
    subst hspot
    refine ⟨g, o, rfl, fun k hk => ?_⟩
    have hk' : k < len0 := by simpa using hk
    obtain ⟨h1, h2, h3, h4⟩ := hall k (by omega)
    rw [t0] at h3
    rw [t1] at h4
    obtain ⟨s, hs1, _, _⟩ := DataW.trod_string hts h3
    obtain ⟨u, hu1, _, _⟩ := DataW.trod_string hts h4
    simp only [List.cons.injEq, and_true] at hs1 hu1
    rw [hs1] at h1
    rw [hu1] at h2
    simp only [List.getElem_map, List.getElem_range, hs1, hu1, textOf, strOf_self]
    rw [addr_add] at h1 h2
    exact ⟨h1, h2⟩
end Go.Proofs.YtbjdgiocehoaiaaDoor
