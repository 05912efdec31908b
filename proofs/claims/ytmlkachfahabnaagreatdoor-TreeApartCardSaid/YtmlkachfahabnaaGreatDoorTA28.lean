/- Trees: what is seen of one. Trees: kids by their places. Trees: what stands below a directory, told by the entries. A tree in memory. Building a kid: its name and its digest; a slice of one. -/
import Derived.Test.YtmlkachfahabnaaGreatDoorTA27
import Derived.Test.YtmlkachfahabnaaGreatDoorTA25
import Derived.Test.YtmlkachfahabnaaGreatDoorTA26
import Derived.Great.BuildSlice
namespace Go.Proofs.YtmlkachfahabnaaGreatDoor
open Go.RowKit
namespace Sp
def shownE (E : List PE) : List PE := E.filterMap fun e => if live e.2 = [] then none else some (e.1, live e.2)
theorem shownE_append (E F : List PE) : shownE (E ++ F) = shownE E ++ shownE F := List.filterMap_append
theorem shownE_map (n : Bs) : ∀ (E : List PE), shownE (E.map (fun e => (n :: e.1, e.2))) = (shownE E).map (fun e => (n :: e.1, e.2))
  | [] => rfl
  | (q, l) :: r => by
    have ih := shownE_map n r
    unfold shownE at *
    rw [List.map_cons]
    by_cases h : live l = []
    · rw [List.filterMap_cons_none (by simp [h]), List.filterMap_cons_none (by simp [h]), ih]
    · rw [List.filterMap_cons_some (b := (n :: q, live l)) (by simp [h]), List.filterMap_cons_some (b := (q, live l)) (by simp [h]), ih, List.map_cons]
mutual
theorem show_entries : ∀ t, entries (showT t) = shownE (entries t)
  | .mk leaf kids => by
    rw [showT, entries, entries, shownE_append, show_entriesL kids]
    congr 1
    by_cases h : leaf = []
    · subst h; rfl
    · rw [if_neg h]
      by_cases h2 : live leaf = []
      · rw [if_pos h2]; unfold shownE; rw [List.filterMap_cons_none (by simp [h2])]; rfl
      · rw [if_neg h2]; unfold shownE; rw [List.filterMap_cons_some (b := ([], live leaf)) (by simp [h2])]; rfl
theorem show_entriesL : ∀ k, entriesL (showL k) = shownE (entriesL k)
  | [] => rfl
  | (n, t) :: r => by
    have h1 := show_entries t
    have h2 := show_entriesL r
    rw [showL, entriesL, shownE_append, shownE_map, ← h1, ← h2]
    by_cases h : entries (showT t) = []
    · rw [if_pos h, h]; rfl
    · rw [if_neg h, entriesL]
end
/-- There is something to be seen. -/
theorem showL_nil : ∀ k, showL k = [] ↔ entriesL (showL k) = []
  | [] => by simp [showL, entriesL]
  | (n, t) :: r => by
    have ih := showL_nil r
    rw [showL]
    by_cases h : entries (showT t) = []
    · rw [if_pos h]; exact ih
    · rw [if_neg h]
      constructor
      · intro h2; cases h2
      · intro h2
        rw [entriesL, List.append_eq_nil_iff, List.map_eq_nil_iff] at h2
        exact absurd h2.1 h
theorem shown_iff (leaf : List Ver) (k : List (Bs × T)) : (live leaf = [] ∧ showL k = []) ↔ entries (showT (.mk leaf k)) = [] := by
  rw [showT, entries, List.append_eq_nil_iff, ← showL_nil]
  constructor
  · rintro ⟨h1, h2⟩; exact ⟨if_pos h1, h2⟩
  · rintro ⟨h1, h2⟩
    refine ⟨?_, h2⟩
    split at h1
    · assumption
    · cases h1
end Sp
end Go.Proofs.YtmlkachfahabnaaGreatDoor
namespace Go.Proofs.YtmlkachfahabnaaGreatDoor
open Go.RowKit
namespace Sp
/-- How many names stand ahead of one. -/
def pos : List Bs → Bs → Nat
  | [], _ => 0
  | m :: r, t => if Op.bytesLess m t then pos r t + 1 else 0
theorem pos_le : ∀ (L : List Bs) (t : Bs), pos L t ≤ L.length
  | [], _ => Nat.le_refl _
  | m :: r, t => by have := pos_le r t; rw [pos]; split <;> simp <;> omega
theorem pos_less : ∀ (L : List Bs) (t : Bs), L.Pairwise (fun a b => Op.bytesLess a b = true) → ∀ k (h : k < L.length), Op.bytesLess L[k] t = decide (k < pos L t)
  | [], _, _, k, h => by simp at h
  | m :: r, t, hp, k, h => by
    obtain ⟨h1, h2⟩ := List.pairwise_cons.1 hp
    rw [pos]
    cases k with
    | zero =>
      rw [List.getElem_cons_zero]
      by_cases hm : Op.bytesLess m t = true
      · rw [if_pos hm, hm]; simp
      · rw [if_neg hm]; simpa using hm
    | succ k =>
      rw [List.getElem_cons_succ]
      by_cases hm : Op.bytesLess m t = true
      · rw [if_pos hm, pos_less r t h2 k (by simpa using h)]; simp
      · rw [if_neg hm]
        have hk' : k < r.length := by simpa using h
        have : ¬ Op.bytesLess (r[k]'hk') t = true := fun hk => hm (less_trans (h1 _ (List.getElem_mem _)) hk)
        simpa using this
theorem kid_pos : ∀ (k : List (Bs × T)) (t : Bs), Rise k → kid k t = if (k.map (·.1))[pos (k.map (·.1)) t]? = some t then (k[pos (k.map (·.1)) t]?).map (·.2) else none
  | [], t, _ => rfl
  | (m, s) :: r, t, hr => by
    obtain ⟨h1, h2⟩ := List.pairwise_cons.1 hr
    have ih := kid_pos r t h2
    rw [kid, List.map_cons, pos]
    by_cases hm : m = t
    · subst hm
      rw [if_pos rfl, less_irr]
      simp
    · rw [if_neg hm]
      by_cases hl : Op.bytesLess m t = true
      · rw [if_pos hl, List.getElem?_cons_succ, List.getElem?_cons_succ]; exact ih
      · rw [if_neg hl, List.getElem?_cons_zero, if_neg (by simpa using hm)]
        have h3 := less_other hm hl
        exact kid_none r t (fun n hn => less_trans h3 (h1 n hn))
/-- The kids, as the code puts one in, or takes it away, by its place. -/
theorem upd_pos : ∀ (k : List (Bs × T)) (t : Bs) (o : Option T), Rise k → upd k t o =
    if (k.map (·.1))[pos (k.map (·.1)) t]? = some t then (match o with | none => k.eraseIdx (pos (k.map (·.1)) t) | some u => k.set (pos (k.map (·.1)) t) (t, u))
    else (match o with | none => k | some u => k.take (pos (k.map (·.1)) t) ++ (t, u) :: k.drop (pos (k.map (·.1)) t))
  | [], t, o, _ => by cases o <;> rfl
  | (m, s) :: r, t, o, hr => by
    obtain ⟨h1, h2⟩ := List.pairwise_cons.1 hr
    have ih := upd_pos r t o h2
    rw [upd, List.map_cons, pos]
    by_cases hm : m = t
    · subst hm
      rw [if_pos rfl, less_irr]
      cases o <;> simp [putO]
    · rw [if_neg hm]
      by_cases hl : Op.bytesLess m t = true
      · rw [if_pos hl, if_pos hl, List.getElem?_cons_succ, ih]
        split
        · cases o <;> simp
        · cases o <;> simp
      · rw [if_neg hl, if_neg hl, List.getElem?_cons_zero, if_neg (by simpa using hm)]
        cases o <;> simp [putO]
end Sp
end Go.Proofs.YtmlkachfahabnaaGreatDoor
namespace Go.Proofs.YtmlkachfahabnaaGreatDoor
open Go.RowKit
namespace Sp
/-- The entries at or below a name, cut. -/
def sub1 (E : List PE) (n : Bs) : List PE := E.filterMap fun e => match e.1 with
  | [] => none
  | m :: q => if m = n then some (q, e.2) else none
theorem sub1_append (E F : List PE) (n : Bs) : sub1 (E ++ F) n = sub1 E n ++ sub1 F n := List.filterMap_append
theorem sub1_map (m n : Bs) : ∀ (E : List PE), sub1 (E.map (fun e => (m :: e.1, e.2))) n = if m = n then E else []
  | [] => by unfold sub1; simp
  | (q, l) :: r => by
    have ih := sub1_map m n r
    unfold sub1 at *
    rw [List.map_cons]
    by_cases h : m = n
    · rw [List.filterMap_cons_some (b := (q, l)) (by simp [h]), ih, if_pos h, if_pos h]
    · rw [List.filterMap_cons_none (by simp [h]), ih, if_neg h, if_neg h]
theorem sub1_other (n : Bs) : ∀ (k : List (Bs × T)), (∀ m ∈ k.map (·.1), m ≠ n) → sub1 (entriesL k) n = []
  | [], _ => rfl
  | (m, t) :: r, h => by
    rw [entriesL, sub1_append, sub1_map, if_neg (h m (by simp)), sub1_other n r (fun x hx => h x (by simp only [List.map_cons, List.mem_cons]; exact .inr hx))]
    rfl
theorem sub1_entriesL (n : Bs) : ∀ (k : List (Bs × T)), Rise k → sub1 (entriesL k) n = entriesO (kid k n)
  | [], _ => rfl
  | (m, t) :: r, hr => by
    obtain ⟨h1, h2⟩ := List.pairwise_cons.1 hr
    rw [entriesL, sub1_append, sub1_map, kid]
    by_cases h : m = n
    · subst h
      rw [if_pos rfl, if_pos rfl, sub1_other m r (fun x hx => by rintro rfl; have := h1 _ hx; rw [less_irr] at this; cases this), List.append_nil]
      rfl
    · rw [if_neg h, if_neg h, List.nil_append, sub1_entriesL n r h2]
theorem sub1_entries (n : Bs) (leaf : List Ver) (k : List (Bs × T)) (hr : Rise k) : sub1 (entries (.mk leaf k)) n = entriesO (kid k n) := by
  rw [entries, sub1_append, sub1_entriesL n k hr]
  split <;> rfl
/-- The leaf at the place itself. -/
def get0 : List PE → List Ver
  | [] => []
  | e :: r => if e.1 = [] then e.2 else get0 r
theorem get0_L : ∀ (E : List PE), (∀ e ∈ E, e.1 ≠ []) → get0 E = []
  | [], _ => rfl
  | e :: r, h => by rw [get0, if_neg (h e (List.mem_cons_self ..)), get0_L r (fun x hx => h x (List.mem_cons_of_mem _ hx))]
theorem get0_entries (leaf : List Ver) (k : List (Bs × T)) : get0 (entries (.mk leaf k)) = leaf := by
  have hL : get0 (entriesL k) = [] := get0_L _ (fun e he => by obtain ⟨n, q, h, _⟩ := entriesL_ne k e he; rw [h]; simp)
  rw [entries]
  split
  · rename_i h; rw [List.nil_append, hL, h]
  · rw [List.cons_append, get0, if_pos rfl]
/-- The names right below, told one after the other. -/
def namesE : List Bs → List PE → List Bs
  | out, [] => out
  | out, e :: r => match e.1 with
    | [] => namesE out r
    | s :: _ => namesE (if out.getLast? = some s then out else out ++ [s]) r
theorem namesE_map (m : Bs) (R : List PE) : ∀ (E : List PE) (out : List Bs), E ≠ [] → namesE out (E.map (fun e => (m :: e.1, e.2)) ++ R) = namesE (if out.getLast? = some m then out else out ++ [m]) R
  | [], _, h => absurd rfl h
  | [e], out, _ => rfl
  | e :: f :: r, out, _ => by
    have ih := fun out' => namesE_map m R (f :: r) out' (by simp)
    show namesE (if out.getLast? = some m then out else out ++ [m]) ((f :: r).map (fun e => (m :: e.1, e.2)) ++ R) = _
    by_cases h : out.getLast? = some m
    · rw [if_pos h, ih, if_pos h]
    · rw [if_neg h, ih, if_pos (by simp)]
theorem namesE_L : ∀ (k : List (Bs × T)) (out : List Bs), Rise k → OkL k → (∀ m ∈ k.map (·.1), out.getLast? ≠ some m) → namesE out (entriesL k) = out ++ k.map (·.1)
  | [], out, _, _, _ => by rw [entriesL, namesE]; simp
  | (m, t) :: r, out, hr, hk, ho => by
    obtain ⟨h1, h2⟩ := List.pairwise_cons.1 hr
    rw [OkL] at hk
    rw [entriesL, namesE_map m _ _ _ hk.2.1, if_neg (ho m (by simp)), namesE_L r (out ++ [m]) h2 hk.2.2.2]
    · simp
    · intro x hx e
      rw [List.getLast?_append, List.getLast?_singleton, Option.some_or] at e
      cases e
      have := h1 _ hx
      rw [less_irr] at this
      cases this
theorem namesE_entries (leaf : List Ver) (k : List (Bs × T)) (hr : Rise k) (hk : OkL k) : namesE [] (entries (.mk leaf k)) = k.map (·.1) := by
  rw [entries]
  have h := namesE_L k [] hr hk (by intro m _ h; cases h)
  split
  · rw [List.nil_append, h]; rfl
  · rw [List.cons_append, namesE, List.nil_append, h]; rfl
end Sp
end Go.Proofs.YtmlkachfahabnaaGreatDoor
namespace Go.Proofs.YtmlkachfahabnaaGreatDoor
open Go.RowKit Go.Shelf
/-- The cells of what stands at a directory. -/
def innerC (A : Option Addr) (c : Nat) (B : Option Addr) (c' : Nat) (C : Option Addr) (c'' : Nat) (t : Sp.T) : Array Value :=
  (([.slice A t.leaf.length c, .slice B t.kids.length c', .slice C t.kids.length c'', .int .i64 (Sp.sizeT t : Nat)] : List Value) ++ (Sp.nsum (Sp.nodeT t)).map byteV ++ (Sp.nsum (Sp.nodeT (Sp.showT t))).map byteV ++ ([.bool (decide (Sp.entries (Sp.showT t) ≠ []))] : List Value)).toArray
def ptrsC (gs : List Nat) : List Value := gs.map fun g => .pointer (some ⟨g, 0, none⟩)
/-- What stands at a directory, in memory. -/
inductive InnerAt (w : World) : Nat → Sp.T → Prop where
  | mk (g : Nat) (t : Sp.T) (A B C : Option Addr) (c c' c'' : Nat) (gs : List Nat) (hx : isBlk w g 66 (innerC A c B c' C c'' t)) (hV : Vers w A t.leaf) (hN : Nams w B (t.kids.map (·.1)))
    (hl : gs.length = t.kids.length) (hC : Cells w C (ptrsC gs)) (hK : ∀ i (h : i < t.kids.length), InnerAt w (gs.getD i 0) (t.kids[i]).2) : InnerAt w g t
theorem InnerAt.ext {w w' : World} (e : Ext w w') {g : Nat} {t : Sp.T} (h : InnerAt w g t) : InnerAt w' g t := by
  induction h with
  | mk g t A B C c c' c'' gs hx hV hN hl hC hK ih => exact .mk g t A B C c c' c'' gs (hx.below e) (hV.ext e) (hN.ext e) hl (hC.ext e) ih
end Go.Proofs.YtmlkachfahabnaaGreatDoor
namespace Go.Proofs.YtmlkachfahabnaaGreatDoor
open Go.RowKit Go.Shelf
theorem fold_putsA (off : Nat) : ∀ (l : List Value) (k : Nat) (cs : Array Value), (l.zipIdx k).foldl (fun (cs : Array Value) (x : Value × Nat) => cs.setIfInBounds (off + x.2) x.1) cs = putsA cs (off + k) l
  | [], _, _ => rfl
  | v :: r, k, cs => by rw [List.zipIdx_cons, List.foldl_cons, fold_putsA off r (k + 1), putsA]; rfl
theorem fold_putsA' (off : Nat) (c : Array Value) (cs : Array Value) : c.zipIdx.foldl (fun cs (x, j) => cs.setIfInBounds (off + j) x) cs = putsA cs off c.toList := by
  rw [← Array.foldl_toList, Array.toList_zipIdx]
  exact fold_putsA off c.toList 0 cs
theorem fill_two (place : Nat → Option (Nat × Nat)) (z : Array Value) (s : ByteArray) (d : List Value) (hz : z.size = 1 + d.length) (h0 : place 0 = some (0, 1)) (h1 : place 1 = some (1, d.length)) :
    Instr.fill place z [(0, .string s), (1, .agg d.toArray)] = some (.string s :: d).toArray := by
  unfold Instr.fill
  rw [h0]
  simp only [show (Value.string s).cells = #[.string s] from rfl]
  rw [if_neg (by simp [hz]), fold_putsA']
  unfold Instr.fill
  rw [h1]
  simp only [show (Value.agg d.toArray).cells = d.toArray from rfl]
  rw [if_neg (by simp [putsA_size, hz]), fold_putsA']
  unfold Instr.fill
  congr 1
  apply Array.ext_getElem?
  intro m
  rw [putsA_get _ _ _ _ (by rw [putsA_size]; simp; omega), putsA_get _ _ _ _ (by simp; omega)]
  simp only [List.getElem?_toArray, List.length_cons, List.length_nil]
  by_cases h2 : m = 0
  · subst h2
    rw [if_neg (by omega), if_pos (by omega)]; rfl
  · rw [if_neg (c := 0 ≤ m ∧ m < 0 + (0 + 1)) (by omega)]
    by_cases h3 : m < 1 + d.length
    · rw [if_pos ⟨by omega, h3⟩]
      cases m with
      | zero => exact absurd rfl h2
      | succ m => simp
    · rw [if_neg (fun h => h3 h.2), Array.getElem?_eq_none (by omega), List.getElem?_eq_none (by simp; omega)]
theorem built_kid (k : Sp.Kid) (h : k.2.length = 32) : (Tryz.prog).built 105 [(0, .string (strOf k.1)), (1, .agg (k.2.map byteV).toArray)] = some (kidL k).toArray := by
  have e : (Tryz.prog).built 105 [(0, .string (strOf k.1)), (1, .agg (k.2.map byteV).toArray)] = Instr.fill (fun i => (#[(0, 1), (1, 32)] : Array (Nat × Nat))[i]?) (#[.string ⟨#[]⟩] ++ Array.replicate 32 (.int .u8 0)) [(0, .string (strOf k.1)), (1, .agg (k.2.map byteV).toArray)] := by kernel_rfl
  rw [e]
  exact fill_two _ _ _ _ (by simp [h]) rfl (by rw [List.length_map, h]; rfl)
section
variable {P : Program} {ops : Array Oper}
theorem det_build {S : World → Prop} {a : Act} {o : Oper} {K : Act → Prop} (hw : Region.wanted o (yielded ops a.tmps) = true) (t : TypeId) (parts : Array (Nat × Operand)) (ho : o.op = .build t parts) (cells : Array Value)
    (hb : P.built t (parts.map fun (i, x) => (i, a.eval x)).toList = some cells) (h : K (a.put o.dst (.agg cells))) : ∃ v, YieldsS P ops S o v a ∧ K (a.put o.dst v) := by
  refine ⟨_, .inl ⟨hw, fun W hS => ?_⟩, h⟩
  unfold execOp
  simp only [ho, Sem.run_bind, run_build W t _ cells hb, Result.andThen_ok, Sem.run_pure]
  exact ⟨rfl, hS⟩
/-- For an arm of the walk's: this operation builds a slice. -/
theorem at_bslice {rest : List Oper} {o : Oper} {a : Act} {w : World} {Q : Exit → Act → World → Prop} {t : TypeId} {n : Nat} {ps : Array (Nat × Operand)} (_ho : o.op = .buildSlice t n ps) (h : wpList P ops Q (o :: rest) a w) : wpList P ops Q (o :: rest) a w := h
/-- A slice of one, whatever its cells are. -/
theorem bslice_one {rest : List Oper} {o : Oper} {a : Act} {w : World} {Q : Exit → Act → World → Prop} (hg : o.guard = none) (t e : TypeId) (x : Operand) (ho : o.op = .buildSlice t 1 #[(0, x)]) {size bytes : Nat} (hst : AppStat P t e size bytes) (hs : size ≤ 1000)
    (cells : Array Value) (hx : (a.eval x).cells = cells) (hc : cells.size = size)
    (h : wpList P ops Q rest (a.put o.dst (.slice (some ⟨w.heap.size, 0, none⟩) 1 1)) (w.alloc (.cells cells e))) : wpList P ops Q (o :: rest) a w := by
  obtain ⟨hu, h0, _, i, z, hi, hz, hsz, _, hzs⟩ := hst
  refine wpList_buildSlice hg t e 1 #[(0, x)] ho cells i z hu hi hz (by rw [hsz]; omega) (by rw [hsz]; omega) ?_ h
  have := Great.fill_whole (s := i.size) (by omega) [a.eval x] ((Array.range (1 * i.size)).map (z.cells[· % z.cells.size]!)) (by intro v hv; rw [List.mem_singleton.1 hv, hx, hc, hsz]) (by simp)
  simpa [hx] using this
end
theorem kidsT_map : ∀ (k : List (Sp.Bs × Sp.T)), Sp.kidsT k = k.map fun x => (x.1, Sp.nsum (Sp.nodeT x.2))
  | [] => rfl
  | (n, t) :: r => by rw [Sp.kidsT, kidsT_map r]; rfl
theorem kidsC_snoc (l : List Sp.Kid) (k : Sp.Kid) : kidsC (l ++ [k]) = kidsC l ++ kidL k := by
  induction l with
  | nil => simp [kidsC]
  | cons x r ih => rw [List.cons_append, kidsC, ih, kidsC, List.append_assoc]
theorem nodeT_kids (t : Sp.T) : (Sp.nodeT t).2 = t.kids.map fun x => (x.1, Sp.nsum (Sp.nodeT x.2)) := by
  cases t with
  | mk l k => rw [Sp.nodeT]; exact kidsT_map k
theorem nodeT_leaf (t : Sp.T) : (Sp.nodeT t).1 = t.leaf := by
  cases t with
  | mk l k => rfl
/-- A block that begins as what stands at a directory. -/
structure PreAt (w : World) (g : Nat) (t : Sp.T) (A B C : Option Addr) (c c' c'' : Nat) (gs : List Nat) (arr : Array Value) : Prop where
  blk : isBlk w g 66 arr
  size : arr.size = 69
  c0 : arr[0]? = some (.slice A t.leaf.length c)
  c1 : arr[1]? = some (.slice B t.kids.length c')
  c2 : arr[2]? = some (.slice C t.kids.length c'')
  V : Vers w A t.leaf
  N : Nams w B (t.kids.map (·.1))
  L : gs.length = t.kids.length
  P : Cells w C (ptrsC gs)
  K : ∀ i (h : i < t.kids.length), InnerAt w (gs.getD i 0) (t.kids[i]).2
theorem PreAt.ext {w w' : World} (e : Ext w w') {g : Nat} {t : Sp.T} {A B C : Option Addr} {c c' c'' : Nat} {gs : List Nat} {arr : Array Value} (h : PreAt w g t A B C c c' c'' gs arr) : PreAt w' g t A B C c c' c'' gs arr :=
  ⟨h.blk.below e, h.size, h.c0, h.c1, h.c2, h.V.ext e, h.N.ext e, h.L, h.P.ext e, fun i hi => (h.K i hi).ext e⟩
theorem ptrs_at {w : World} {gs : List Nat} {C : Option Addr} (h : Cells w C (ptrsC gs)) (k : Nat) (hk : k < gs.length) : ∃ cb co, C = some ⟨cb, co, none⟩ ∧ ∀ i, i < gs.length → w.cell? ⟨cb, co + i, none⟩ = some (.pointer (some ⟨gs.getD i 0, 0, none⟩)) := by
  have hne : ptrsC gs ≠ [] := by
    intro e
    have h3 : gs.length = 0 := by simpa [ptrsC] using congrArg List.length e
    omega
  obtain ⟨cb, co, hC, hc⟩ := h hne
  refine ⟨cb, co, hC, fun i hi => hc i _ ?_⟩
  simp [ptrsC, List.getD_eq_getElem?_getD, List.getElem?_eq_getElem hi]
theorem PreAt.at {w : World} {g : Nat} {t : Sp.T} {A B C : Option Addr} {c c' c'' : Nat} {gs : List Nat} {arr : Array Value} (h : PreAt w g t A B C c c' c'' gs arr) (k : Nat) (hk : k < t.kids.length) :
    ∃ cb co nb no, C = some ⟨cb, co, none⟩ ∧ B = some ⟨nb, no, none⟩ ∧ w.cell? ⟨cb, co + k, none⟩ = some (.pointer (some ⟨gs.getD k 0, 0, none⟩)) ∧ w.cell? ⟨nb, no + k, none⟩ = some (.string (strOf (t.kids[k]).1)) := by
  obtain ⟨cb, co, hC, hc⟩ := ptrs_at h.P k (by have := h.L; omega)
  obtain ⟨nb, no, hB, hn⟩ := h.N.at (by simp; omega)
  exact ⟨cb, co, nb, no, hC, hB, hc k (by have := h.L; omega), by have := hn k (by simpa using hk); rwa [List.getElem_map] at this⟩
theorem innerC_size (A : Option Addr) (c : Nat) (B : Option Addr) (c' : Nat) (C : Option Addr) (c'' : Nat) (t : Sp.T) : (innerC A c B c' C c'' t).size = 69 := by
  simp [innerC, Sp.nsum_len]
theorem InnerAt.pre {w : World} {g : Nat} {t : Sp.T} (h : InnerAt w g t) : ∃ A B C c c' c'' gs, PreAt w g t A B C c c' c'' gs (innerC A c B c' C c'' t) := by
  cases h with
  | mk g t A B C c c' c'' gs hx hV hN hl hC hK => exact ⟨A, B, C, c, c', c'', gs, hx, innerC_size .., rfl, rfl, rfl, hV, hN, hl, hC, hK⟩
/-- What is read of it: how many, the digests, whether anything is shown. -/
theorem InnerAt.cells {w : World} {g : Nat} {t : Sp.T} (h : InnerAt w g t) : w.cell? ⟨g, 3, none⟩ = some (.int .i64 (Sp.sizeT t : Nat)) ∧ w.rangeAt g 4 ((Sp.nsum (Sp.nodeT t)).map byteV) ∧ w.rangeAt g 36 ((Sp.nsum (Sp.nodeT (Sp.showT t))).map byteV) ∧
    w.cell? ⟨g, 68, none⟩ = some (.bool (decide (Sp.entries (Sp.showT t) ≠ []))) := by
  cases h with
  | mk g t A B C c c' c'' gs hx hV hN hl hC hK =>
    have n1 := Sp.nsum_len (Sp.nodeT t)
    have n2 := Sp.nsum_len (Sp.nodeT (Sp.showT t))
    refine ⟨hx.cell 3, ?_, ?_, ?_⟩
    · refine hx.rangeAt 4 _ fun j v hj => ?_
      have hj2 := (List.getElem?_eq_some_iff.1 hj).1
      simp only [innerC, List.getElem?_toArray]
      rw [List.getElem?_append_left (by simp at hj2 ⊢; omega), List.getElem?_append_left (by simp at hj2 ⊢; omega), List.getElem?_append_right (by simp)]
      simpa using hj
    · refine hx.rangeAt 36 _ fun j v hj => ?_
      have hj2 := (List.getElem?_eq_some_iff.1 hj).1
      simp only [innerC, List.getElem?_toArray]
      rw [List.getElem?_append_left (by simp at hj2 ⊢; omega), List.getElem?_append_right (by simp [n1])]
      simpa [n1] using hj
    · rw [hx.cell 68]
      simp only [innerC, List.getElem?_toArray]
      rw [List.getElem?_append_right (by simp [n1, n2])]
      simp [n1, n2]
end Go.Proofs.YtmlkachfahabnaaGreatDoor
