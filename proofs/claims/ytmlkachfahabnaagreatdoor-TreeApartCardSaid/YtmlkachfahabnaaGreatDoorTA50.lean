/- Entries that come in. -/
import Derived.Test.YtmlkachfahabnaaGreatDoorTA35
import Derived.Test.YtmlkachfahabnaaGreatDoorTA12
import Derived.Deep.SlicePairs
import Derived.Carry
import Derived.WideShapes
import Derived.ChangeArms
import Derived.OpenShut
import Derived.MakeChecks
namespace Go.Proofs.YtmlkachfahabnaaGreatDoor
open Go.RowKit Go.ChangeShapes Go.WideShapes Go.Deep
theorem addr_plus (g o j : Nat) : (⟨g, o, none⟩ : Addr).add j = ⟨g, o + j, none⟩ := by simp [Addr.add]
theorem cells_dots {w : World} {g o : Nat} {l : List Sp.Dot} (h : ∀ k (hk : k < l.length), w.cell? ⟨g, o + k * 2, none⟩ = some (.int .i64 (l[k]).1) ∧ w.cell? ⟨g, o + k * 2 + 1, none⟩ = some (.int .i64 (l[k]).2)) : Dots w (some ⟨g, o, none⟩) l := fun _ =>
  ⟨g, o, rfl, fun i u hi => by
    have hil : i < l.length * 2 := by
      rw [← dotsC_len]
      exact (List.getElem?_eq_some_iff.1 hi).1
    have hk : i / 2 < l.length := by omega
    have h1 := dotsC_get l (i / 2) hk
    have h2 := h (i / 2) hk
    rcases Nat.mod_two_eq_zero_or_one i with h0 | h0
    · have e : i / 2 * 2 = i := by omega
      rw [e] at h1 h2
      rw [h1.1] at hi
      rw [h2.1, hi]
    · have e : i / 2 * 2 + 1 = i := by omega
      have e2 : o + i / 2 * 2 + 1 = o + i := by omega
      rw [e] at h1
      rw [e2] at h2
      rw [h1.2] at hi
      rw [h2.2, hi]⟩
theorem cells_vers {w : World} {g o : Nat} {m : List (Option Addr × Nat × Sp.Ver)} (h : ∀ k (hk : k < m.length) j u, (verC m[k].1 m[k].2.1 m[k].2.2)[j]? = some u → w.cell? ⟨g, o + (k * 5 + j), none⟩ = some u) : Cells w (some ⟨g, o, none⟩) (versC m) := fun _ =>
  ⟨g, o, rfl, fun i u hi => by
    have hil : i < m.length * 5 := by
      rw [← versC_len]
      exact (List.getElem?_eq_some_iff.1 hi).1
    have hk : i / 5 < m.length := by omega
    have e : i / 5 * 5 + i % 5 = i := by omega
    have h1 := versC_get m (i / 5) (i % 5) hk (by omega)
    rw [e, hi] at h1
    have := h (i / 5) hk (i % 5) u h1.symm
    rwa [e] at this⟩
theorem cells_ents {w : World} {g o : Nat} {m : List (Option Addr × Nat × Sp.DE)} (h : ∀ k (hk : k < m.length), w.cell? ⟨g, o + k * 2, none⟩ = some (.string (strOf m[k].2.2.1)) ∧ w.cell? ⟨g, o + k * 2 + 1, none⟩ = some (.slice m[k].1 m[k].2.2.2.length m[k].2.1)) : Cells w (some ⟨g, o, none⟩) (entsC m) := fun _ =>
  ⟨g, o, rfl, fun i u hi => by
    have hil : i < m.length * 2 := by
      rw [← entsC_len]
      exact (List.getElem?_eq_some_iff.1 hi).1
    have hk : i / 2 < m.length := by omega
    have e : i / 2 * 2 + i % 2 = i := by omega
    have h1 := entsC_get m (i / 2) (i % 2) hk (by omega)
    rw [e, hi] at h1
    have h2 := h (i / 2) hk
    rcases Nat.mod_two_eq_zero_or_one i with h0 | h0
    · rw [h0] at h1 e
      rw [show i / 2 * 2 = i by omega] at h2
      rw [h2.1]
      simpa [entC] using h1.symm
    · rw [h0] at h1 e
      rw [show o + i / 2 * 2 + 1 = o + i by omega] at h2
      rw [h2.2]
      simpa [entC] using h1.symm⟩
section
variable {H : Type} {enc : TypeId × Value → H} {w : World} {base : Nat} {spare : Nat → Bool} {held : Bool}
theorem weights_mem {P : Program} {e : TypeId} : ∀ (l : List (DataW H)) (d : DataW H), d ∈ l → (DataW.weightsAll P e l).all (· ≤ reachBytes) = true → (d.weights P e).all (· ≤ reachBytes) = true
  | x :: r, d, h, ha => by
    unfold DataW.weightsAll at ha
    rw [List.all_append, Bool.and_eq_true] at ha
    rcases List.mem_cons.1 h with rfl | h
    · exact ha.1
    · exact weights_mem r d h ha.2
set_option maxRecDepth 100000 in
theorem open_dots {n : Nat} {cs : List Value} {x : DataW H × List MemPlace} (h : DataW.trod enc Tryz.prog w base spare held n 46 cs = some x) :
    ∃ (l : List Sp.Dot) (A : Option Addr) (cap : Nat), cs = [.slice A l.length cap] ∧ Dots w A l ∧ ((x.1.weights Tryz.prog 46).all (· ≤ reachBytes) = true → l.length ≤ 140737488351232) := by
  rcases open_slice_pairs Tryz.underlying46 Tryz.underlying45 (by kernel_rfl) rfl rfl (by kernel_rfl) (by kernel_rfl) h with ⟨hc, _⟩ | ⟨a, len, cap, m, n, V0, V1, D0, D1, P0, P1, hc, _, hl, hm, hmm, hx, hall⟩
  · exact ⟨[], none, 0, hc, Cells.nil _ _, fun _ => Nat.zero_le _⟩
  · have hlm : len ≤ m := by rw [hmm]; split <;> omega
    obtain ⟨g, o, spot⟩ := a
    refine ⟨(List.range len).map fun i => (intOf (V0 i), intOf (V1 i)), some ⟨g, o, spot⟩, cap, by simpa using hc, ?_, ?_⟩
    · rcases Nat.eq_zero_or_pos len with h0 | h0
      · subst h0; exact Cells.nil _ _
      · have hspot : spot = none := by simpa [Addr.add] using World.cell?_spot (hall 0 (by omega)).1
        subst hspot
        refine cells_dots fun k hk => ?_
        have hk' : k < len := by simpa using hk
        obtain ⟨h1, h2, h3, h4⟩ := hall k (by omega)
        obtain ⟨u, hu, _⟩ := DataW.trod_int Tryz.underlying3 h3
        obtain ⟨v, hv, _⟩ := DataW.trod_int Tryz.underlying3 h4
        simp only [List.cons.injEq, and_true] at hu hv
        rw [hu] at h1
        rw [hv] at h2
        rw [addr_plus] at h1 h2
        simp only [List.getElem_map, List.getElem_range, hu, hv, intOf]
        exact ⟨h1, h2⟩
    · intro ha
      rw [hx] at ha
      unfold DataW.weights at ha
      rw [Tryz.underlying46] at ha
      simp only [List.all_cons, Bool.and_eq_true, decide_eq_true_eq, List.length_map, List.length_range] at ha
      have hb : Tryz.prog.bytesOf 45 = 16 := by kernel_rfl
      have := ha.1
      rw [hb] at this
      simp only [reachBytes] at this
      simp only [List.length_map, List.length_range]
      omega
set_option maxRecDepth 100000 in
theorem open_ver {n : Nat} {cs : List Value} {x : DataW H × List MemPlace} (h : DataW.trod enc Tryz.prog w base spare held n 48 cs = some x) :
    ∃ y : Option Addr × Nat × Sp.Ver, cs = (verC y.1 y.2.1 y.2.2).toList ∧ Dots w y.1 y.2.2.past ∧ ((x.1.weights Tryz.prog 48).all (· ≤ reachBytes) = true → y.2.2.past.length ≤ 140737488351232) := by
  obtain ⟨xs, k, _, rfl, hl, hlen, hf⟩ := DataW.trod_struct Tryz.underlying48 h
  have c0 : Tryz.prog.cellsOf 48 = 5 := by kernel_rfl
  have c1 : Tryz.prog.cellsOf 45 = 2 := by kernel_rfl
  have c2 : Tryz.prog.cellsOf 46 = 1 := by kernel_rfl
  have c3 : Tryz.prog.cellsOf 4 = 1 := by kernel_rfl
  have c4 : Tryz.prog.cellsOf 9 = 1 := by kernel_rfl
  have c5 : Tryz.prog.cellsOf 3 = 1 := by kernel_rfl
  rw [c0] at hl
  match cs, hl, xs, hlen with
  | [a, b, c, d, e], _, [y0, y1, y2, y3], _ =>
    have g0 := hf 0 _ rfl
    have g1 := hf 1 _ rfl
    have g2 := hf 2 _ rfl
    have g3 := hf 3 _ rfl
    simp at g0 g1 g2 g3
    rw [c1] at g0
    rw [c2] at g1
    rw [c3] at g2
    rw [c4] at g3
    simp only [List.take_succ_cons, List.take_zero] at g0 g1 g2 g3
    obtain ⟨zs, k0, _, hz, hzl, hzlen, hzf⟩ := DataW.trod_struct Tryz.underlying45 g0
    match zs, hzlen with
    | [z0, z1], _ =>
      have i0 := hzf 0 _ rfl
      have i1 := hzf 1 _ rfl
      simp at i0 i1
      rw [c5] at i0 i1
      simp only [List.take_succ_cons, List.take_zero] at i0 i1
      obtain ⟨p, hp, _⟩ := DataW.trod_int Tryz.underlying3 i0
      obtain ⟨q, hq, _⟩ := DataW.trod_int Tryz.underlying3 i1
      obtain ⟨l, A, cap, hA, hd, hw⟩ := open_dots g1
      obtain ⟨bb, hbb, _⟩ := DataW.trod_bool Tryz.underlying4 g2
      obtain ⟨s, hs, _⟩ := DataW.trod_string Tryz.underlying9 g3
      simp only [List.cons.injEq, and_true] at hp hq hA hbb hs
      subst hp hq hA hbb hs
      refine ⟨(A, cap, ⟨(p, q), l, bb, s.data.toList⟩), ?_, hd, fun ha => hw ?_⟩
      · simp [strOf_self]
      · unfold DataW.weights at ha
        rw [Tryz.underlying48] at ha
        simp [DataW.weightsEach, List.all_append] at ha
        simpa using ha.2.1
set_option maxRecDepth 100000 in
theorem open_vers {n : Nat} {cs : List Value} {x : DataW H × List MemPlace} (h : DataW.trod enc Tryz.prog w base spare held n 39 cs = some x) :
    ∃ (l : List Sp.Ver) (A : Option Addr) (cap : Nat), cs = [.slice A l.length cap] ∧ ((x.1.weights Tryz.prog 39).all (· ≤ reachBytes) = true → Vers w A l) := by
  have ce : Tryz.prog.cellsOf 48 = 5 := by kernel_rfl
  rcases open_slice Tryz.underlying39 h with ⟨hc, _⟩ | ⟨a, len, cap, m, n, D, Pl, hc, _, hl, hm, hmm, hx, hall⟩
  · exact ⟨[], none, 0, hc, fun _ => Vers.nil _ _⟩
  · have hlm : len ≤ m := by rw [hmm]; split <;> omega
    obtain ⟨f, hf⟩ := choose_lt (n := len) (fun i hi => by
      obtain ⟨cs', h1, h2⟩ := hall i (by omega)
      obtain ⟨y, h3, h4, h5⟩ := open_ver h2
      exact ⟨y, (show w.cells? base (a.add (i * Tryz.prog.cellsOf 48)) (Tryz.prog.cellsOf 48) = some (verC y.1 y.2.1 y.2.2).toList ∧ Dots w y.1 y.2.2.past ∧ (((D i).weights Tryz.prog 48).all (· ≤ reachBytes) = true → y.2.2.past.length ≤ 140737488351232) from ⟨by rw [h1, h3], h4, h5⟩)⟩)
    obtain ⟨g, o, spot⟩ := a
    refine ⟨(List.range len).map fun i => (f i).2.2, some ⟨g, o, spot⟩, cap, by simpa using hc, fun ha => ?_⟩
    rcases Nat.eq_zero_or_pos len with h0 | h0
    · subst h0; exact Vers.nil _ _
    · have hcell : ∀ i, i < len → ∀ j u, (verC (f i).1 (f i).2.1 (f i).2.2)[j]? = some u → w.cell? ((⟨g, o, spot⟩ : Addr).add (i * 5 + j)) = some u := by
        intro i hi j u hj
        have h1 := (hf i hi).1
        rw [ce] at h1
        obtain ⟨_, h2, h3⟩ := World.cells?_some h1
        have hj5 : j < 5 := by
          have := (Array.getElem?_eq_some_iff.1 hj).1
          simpa using this
        have := h3 j hj5
        rw [add_add] at this
        rw [this, ← hj]
        simp
      have hspot : spot = none := by
        have := World.cell?_spot (hcell 0 h0 0 _ rfl)
        simpa [Addr.add] using this
      subst hspot
      refine ⟨(List.range len).map f, by simp, ?_, ?_⟩
      · refine cells_vers fun k hk j u hj => ?_
        have hk' : k < len := by simpa using hk
        simp only [List.getElem_map, List.getElem_range] at hj
        have := hcell k hk' j u hj
        rwa [addr_plus] at this
      · intro y hy
        obtain ⟨i, hi, rfl⟩ := List.mem_map.1 hy
        have hi' : i < len := by simpa using hi
        refine ⟨(hf i hi').2.1, (hf i hi').2.2 ?_⟩
        rw [hx] at ha
        unfold DataW.weights at ha
        rw [Tryz.underlying39] at ha
        simp only [List.all_cons, List.all_append, Bool.and_eq_true] at ha
        exact weights_mem _ _ (List.mem_map.2 ⟨i, List.mem_range.2 hi', rfl⟩) ha.2.1
set_option maxRecDepth 100000 in
theorem open_ents {n : Nat} {cs : List Value} {x : DataW H × List MemPlace} (h : DataW.trod enc Tryz.prog w base spare held n 22 cs = some x) :
    ∃ (l : List Sp.DE) (A : Option Addr) (cap : Nat), cs = [.slice A l.length cap] ∧ ((x.1.weights Tryz.prog 22).all (· ≤ reachBytes) = true → EntsAt w A l) := by
  rcases open_slice_pairs Tryz.underlying22 Tryz.underlying41 (by kernel_rfl) rfl rfl (by kernel_rfl) (by kernel_rfl) h with ⟨hc, _⟩ | ⟨a, len, cap, m, n, V0, V1, D0, D1, P0, P1, hc, _, hl, hm, hmm, hx, hall⟩
  · exact ⟨[], none, 0, hc, fun _ => ⟨[], rfl, Cells.nil _ _, fun _ h => by cases h⟩⟩
  · have hlm : len ≤ m := by rw [hmm]; split <;> omega
    obtain ⟨g, o, spot⟩ := a
    obtain ⟨f, hf⟩ := choose_lt (n := len) (p := fun i (y : Option Addr × Nat × Sp.DE) => w.cell? ((⟨g, o, spot⟩ : Addr).add (i * 2)) = some (.string (strOf y.2.2.1)) ∧ w.cell? ((⟨g, o, spot⟩ : Addr).add (i * 2 + 1)) = some (.slice y.1 y.2.2.2.length y.2.1) ∧ (((D1 i).weights Tryz.prog 39).all (· ≤ reachBytes) = true → Vers w y.1 y.2.2.2)) (fun i hi => by
      obtain ⟨h1, h2, h3, h4⟩ := hall i (by omega)
      obtain ⟨s, hs, _⟩ := DataW.trod_string Tryz.underlying9 h3
      obtain ⟨l, A, c, hA, hv⟩ := open_vers h4
      simp only [List.cons.injEq, and_true] at hs hA
      exact ⟨(A, c, (s.data.toList, l)), by rw [h1, hs, strOf_self], by rw [h2, hA], hv⟩)
    refine ⟨(List.range len).map fun i => (f i).2.2, some ⟨g, o, spot⟩, cap, by simpa using hc, fun ha => ?_⟩
    rcases Nat.eq_zero_or_pos len with h0 | h0
    · subst h0; exact ⟨[], rfl, Cells.nil _ _, fun _ h => by cases h⟩
    · have hspot : spot = none := by simpa [Addr.add] using World.cell?_spot (hall 0 (by omega)).1
      subst hspot
      refine ⟨(List.range len).map f, by simp, cells_ents fun k hk => ?_, ?_⟩
      · have hk' : k < len := by simpa using hk
        obtain ⟨h1, h2, _⟩ := hf k hk'
        rw [addr_plus] at h1 h2
        simp only [List.getElem_map, List.getElem_range]
        exact ⟨h1, h2⟩
      · intro y hy
        obtain ⟨i, hi, rfl⟩ := List.mem_map.1 hy
        have hi' : i < len := by simpa using hi
        refine (hf i hi').2.2 ?_
        rw [hx] at ha
        unfold DataW.weights at ha
        rw [Tryz.underlying22] at ha
        simp only [List.all_cons, List.all_append, Bool.and_eq_true] at ha
        have h1 := weights_mem _ _ (List.mem_map.2 ⟨i, List.mem_range.2 hi', rfl⟩) ha.2.1
        unfold DataW.weights at h1
        rw [Tryz.underlying41] at h1
        simp [DataW.weightsEach, List.all_append] at h1
        simpa using h1.2
end
theorem laid_var {P : Program} {w : World} : ∀ {l : List (String × DataW Unit)} {ps : List MemPlace}, DataW.LaidVars P w l ps → ∀ n d, (n, d) ∈ l →
    ∃ g t cs fuel p, P.globalNamed n = some g ∧ (P.globals[g]?).map (·.type) = some t ∧ w.var? P n = some cs ∧ DataW.trod (fun _ => ()) P w 0 (fun _ => true) false fuel t cs.toList = some (d, p)
  | (_, _) :: _, _, ⟨g, t, cs, fuel, p, q, h1, h2, h3, h4, h5, _⟩, n, d, h => by
    rcases List.mem_cons.1 h with h | h
    · cases h; exact ⟨g, t, cs, fuel, p, h1, h2, h3, h4⟩
    · exact laid_var h5 n d h
/-- The words of a digest's table, out of what is laid. -/
theorem keys_laid {P : Program} {w : World} {laid : List (String × DataW Unit)} {n : String} {g t e : Nat} (h : laidMetH P laid w) (hp : (laid.all fun x => x.2.handleName?.isNone) = true) (hg : P.globalNamed n = some g) (ht : (P.globals[g]?).map (·.type) = some t)
    (hu : P.underlying t = some (.array 64 e)) (he : P.underlying e = some (.int .u32)) (hc : P.cellsOf e = 1) (hct : P.cellsOf t = 64) (hm : (n, DataW.agg (Sp.keys.map fun k => .lit (.int .u32 (wd k)))) ∈ laid) : KeysAt w g := by
  rw [Go.MakeChecks.laidMetH_plain P laid w hp] at h
  obtain ⟨ps, hl, _⟩ := h
  obtain ⟨g', t', cs, fuel, p, h1, h2, h3, h4⟩ := laid_var hl _ _ hm
  obtain rfl : g' = g := Option.some.inj (h1.symm.trans hg)
  obtain rfl : t' = t := Option.some.inj (h2.symm.trans ht)
  obtain ⟨xs, k, _, hx, hlen, hxl, hf⟩ := DataW.trod_array hu h4
  rw [hct] at hlen
  simp only [Prod.mk.injEq, DataW.agg.injEq] at hx
  intro i hi
  have hkl : Sp.keys.length = 64 := by decide
  have h5 := hf i hi
  rw [hc, Nat.mul_one] at h5
  have hci : i < cs.toList.length := by omega
  rw [List.drop_eq_getElem_cons hci, List.take_succ_cons, List.take_zero, List.getElem?_eq_getElem (by omega)] at h5
  obtain ⟨m, h6, h7, _⟩ := DataW.trod_int he h5
  simp only [List.cons.injEq, and_true] at h6
  have h8 := congrArg (fun l => l[i]?) hx.1
  simp only [List.getElem?_map, List.getElem?_eq_getElem (show i < Sp.keys.length by omega), List.getElem?_eq_getElem (show i < xs.length by omega), h7, Option.map_some, Option.some.injEq, DataW.lit.injEq, Lit.int.injEq, true_and] at h8
  unfold World.var? at h3
  rw [h1] at h3
  simp only [Option.bind_some] at h3
  unfold World.cell?
  simp only
  split at h3
  · rename_i cs' t2 x2 hh
    obtain rfl : cs' = cs := Option.some.inj h3
    rw [hh]
    simp only [List.getD_eq_getElem?_getD, List.getElem?_eq_getElem (show i < Sp.keys.length by omega), Option.getD_some]
    have : cs'[i]? = some (.int .u32 m) := by
      rw [← h6]; simp
    rw [this, ← h8]
    rfl
  · cases h3
end Go.Proofs.YtmlkachfahabnaaGreatDoor
