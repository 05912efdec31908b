/- Trees: what is put into one keeps what holds of trees. Trees: what is seen of one. Trees: kids by their places. Trees: what stands below a directory, told by the entries. A tree in memory. Building a kid: its name and its digest; a slice of one. Walks: what stands at a directory, as a node. Walks: what stands by a name. Walks: what stands at a directory is made: its cells, plain. -/
import Derived.Great.BuildSlice
import Derived.Test.YtmlfnidckfeebaaGreatDoorRF013
namespace Go.Proofs.YtmlfnidckfeebaaGreatDoor
open Go.RowKit
namespace Sp
theorem upd_ok (p : Bs) (o : Option T) (ho : ∀ t, o = some t → name p = true ∧ entries t ≠ [] ∧ Ok t) : ∀ (k : List (Bs × T)), Rise k → OkL k → Rise (upd k p o) ∧ OkL (upd k p o) ∧ ∀ n ∈ (upd k p o).map (·.1), n = p ∨ n ∈ k.map (·.1)
  | [], _, _ => by
    cases o with
    | none => exact ⟨List.Pairwise.nil, trivial, fun n h => by cases h⟩
    | some t =>
      obtain ⟨h1, h2, h3⟩ := ho t rfl
      exact ⟨List.pairwise_singleton _ _, ⟨h1, h2, h3, trivial⟩, fun n h => by simpa [upd, putO] using h⟩
  | (m, s) :: r, hr, hk => by
    obtain ⟨hr1, hr2⟩ := List.pairwise_cons.1 hr
    have hk0 := hk
    rw [OkL] at hk
    obtain ⟨hm, hs, hso, hk'⟩ := hk
    rw [upd]
    by_cases h1 : m = p
    · subst h1
      rw [if_pos rfl]
      cases o with
      | none => exact ⟨hr2, hk', fun n h => .inr (by simp only [List.map_cons, List.mem_cons]; exact .inr h)⟩
      | some t =>
        obtain ⟨a1, a2, a3⟩ := ho t rfl
        exact ⟨List.pairwise_cons.2 ⟨hr1, hr2⟩, ⟨a1, a2, a3, hk'⟩, fun n h => by simpa [putO] using h⟩
    · rw [if_neg h1]
      by_cases h2 : Op.bytesLess m p = true
      · rw [if_pos h2]
        obtain ⟨i1, i2, i3⟩ := upd_ok p o ho r hr2 hk'
        refine ⟨List.pairwise_cons.2 ⟨fun n hn => ?_, i1⟩, ⟨hm, hs, hso, i2⟩, fun n hn => ?_⟩
        · rcases i3 n hn with rfl | h
          · exact h2
          · exact hr1 n h
        · rcases List.mem_cons.1 hn with rfl | hn
          · exact .inr (by simp)
          · rcases i3 n hn with h | h
            · exact .inl h
            · exact .inr (by simp only [List.map_cons, List.mem_cons]; exact .inr h)
      · rw [if_neg h2]
        have h3 := less_other h1 h2
        cases o with
        | none => exact ⟨hr, hk0, fun n h => .inr h⟩
        | some t =>
          obtain ⟨a1, a2, a3⟩ := ho t rfl
          refine ⟨List.pairwise_cons.2 ⟨fun n hn => ?_, hr⟩, ⟨a1, a2, a3, hk0⟩, fun n h => by simpa [putO] using h⟩
          rcases List.mem_cons.1 hn with rfl | hn
          · exact h3
          · exact less_trans h3 (hr1 n hn)
theorem entries_some {leaf : List Ver} {k : List (Bs × T)} (hk : OkL k) (h : ¬ (leaf = [] ∧ k = [])) : entries (.mk leaf k) ≠ [] := by
  rw [entries]
  intro e
  rw [List.append_eq_nil_iff] at e
  obtain ⟨e1, e2⟩ := e
  split at e1
  · rename_i hl
    cases k with
    | nil => exact h ⟨hl, rfl⟩
    | cons x r =>
      obtain ⟨n, t⟩ := x
      rw [OkL] at hk
      rw [entriesL, List.append_eq_nil_iff, List.map_eq_nil_iff] at e2
      exact hk.2.1 e2.1
  · cases e1
theorem kept_ok {leaf : List Ver} {k : List (Bs × T)} (hl : leaf ≠ [] → Sp.leaf leaf = 0) (hr : Rise k) (hk : OkL k) : ∀ t, kept leaf k = some t → entries t ≠ [] ∧ Ok t := by
  intro t h
  unfold kept at h
  split at h
  · cases h
  · rename_i hn
    cases h
    exact ⟨entries_some hk hn, by rw [Ok]; exact ⟨hl, hr, hk⟩⟩
theorem with_ok (l : List Ver) (hl : l ≠ [] → Sp.leaf l = 0) : ∀ (ps : List Bs) (x : Option T), (∀ n ∈ ps, name n = true) → (∀ t, x = some t → Ok t) → ∀ t, withO x ps l = some t → entries t ≠ [] ∧ Ok t
  | [], x, _, hx => by
    rw [withO]
    cases x with
    | none => exact kept_ok hl List.Pairwise.nil trivial
    | some t => cases t with
      | mk leaf k =>
        have ho := hx _ rfl
        rw [Ok] at ho
        exact kept_ok hl ho.2.1 ho.2.2
  | p :: ps, x, hn, hx => by
    rw [withO]
    have hps : ∀ n ∈ ps, name n = true := fun n h => hn n (List.mem_cons_of_mem _ h)
    cases x with
    | none =>
      have ih := with_ok l hl ps none hps (by intro t h; cases h)
      obtain ⟨u1, u2, _⟩ := upd_ok p (withO none ps l) (fun t h => ⟨hn p (List.mem_cons_self ..), ih t h⟩) [] List.Pairwise.nil trivial
      exact kept_ok (fun h => absurd rfl h) u1 u2
    | some t => cases t with
      | mk leaf k =>
        have ho := hx _ rfl
        rw [Ok] at ho
        have ih := with_ok l hl ps (kid k p) hps (fun t h => kid_ok k p t ho.2.2 h)
        obtain ⟨u1, u2, _⟩ := upd_ok p (withO (kid k p) ps l) (fun t h => ⟨hn p (List.mem_cons_self ..), ih t h⟩) k ho.2.1 ho.2.2
        exact kept_ok ho.1 u1 u2
def shownE (E : List PE) : List PE := E.filterMap fun e => if live e.2 = [] then none else some (e.1, live e.2)
theorem shownE_append (E F : List PE) : shownE (E ++ F) = shownE E ++ shownE F := List.filterMap_append
theorem shownE_map (n : Bs) : ∀ (E : List PE), shownE (E.map (fun e => (n :: e.1, e.2))) = (shownE E).map (fun e => (n :: e.1, e.2))
  | [] => rfl
  | (q, l) :: r => by
    have ih := shownE_map n r
    unfold shownE at *
    rw [List.map_cons]
    by_cases h : live l = []
    · rw [List.filterMap_cons_none (by simp [h]), List.filterMap_cons_none (by simp [h]), ih]
    · rw [List.filterMap_cons_some (b := (n :: q, live l)) (by simp [h]), List.filterMap_cons_some (b := (q, live l)) (by simp [h]), ih, List.map_cons]
mutual
theorem show_entries : ∀ t, entries (showT t) = shownE (entries t)
  | .mk leaf kids => by
    rw [showT, entries, entries, shownE_append, show_entriesL kids]
    congr 1
    by_cases h : leaf = []
    · subst h; rfl
    · rw [if_neg h]
      by_cases h2 : live leaf = []
      · rw [if_pos h2]; unfold shownE; rw [List.filterMap_cons_none (by simp [h2])]; rfl
      · rw [if_neg h2]; unfold shownE; rw [List.filterMap_cons_some (b := ([], live leaf)) (by simp [h2])]; rfl
theorem show_entriesL : ∀ k, entriesL (showL k) = shownE (entriesL k)
  | [] => rfl
  | (n, t) :: r => by
    have h1 := show_entries t
    have h2 := show_entriesL r
    rw [showL, entriesL, shownE_append, shownE_map, ← h1, ← h2]
    by_cases h : entries (showT t) = []
    · rw [if_pos h, h]; rfl
    · rw [if_neg h, entriesL]
end
theorem showL_nil : ∀ k, showL k = [] ↔ entriesL (showL k) = []
  | [] => by simp [showL, entriesL]
  | (n, t) :: r => by
    have ih := showL_nil r
    rw [showL]
    by_cases h : entries (showT t) = []
    · rw [if_pos h]; exact ih
    · rw [if_neg h]
      constructor
      · intro h2; cases h2
      · intro h2
        rw [entriesL, List.append_eq_nil_iff, List.map_eq_nil_iff] at h2
        exact absurd h2.1 h
theorem shown_iff (leaf : List Ver) (k : List (Bs × T)) : (live leaf = [] ∧ showL k = []) ↔ entries (showT (.mk leaf k)) = [] := by
  rw [showT, entries, List.append_eq_nil_iff, ← showL_nil]
  constructor
  · rintro ⟨h1, h2⟩; exact ⟨if_pos h1, h2⟩
  · rintro ⟨h1, h2⟩
    refine ⟨?_, h2⟩
    split at h1
    · assumption
    · cases h1
def pos : List Bs → Bs → Nat
  | [], _ => 0
  | m :: r, t => if Op.bytesLess m t then pos r t + 1 else 0
theorem pos_le : ∀ (L : List Bs) (t : Bs), pos L t ≤ L.length
  | [], _ => Nat.le_refl _
  | m :: r, t => by have := pos_le r t; rw [pos]; split <;> simp <;> omega
theorem pos_less : ∀ (L : List Bs) (t : Bs), L.Pairwise (fun a b => Op.bytesLess a b = true) → ∀ k (h : k < L.length), Op.bytesLess L[k] t = decide (k < pos L t)
  | [], _, _, k, h => by simp at h
  | m :: r, t, hp, k, h => by
    obtain ⟨h1, h2⟩ := List.pairwise_cons.1 hp
    rw [pos]
    cases k with
    | zero =>
      rw [List.getElem_cons_zero]
      by_cases hm : Op.bytesLess m t = true
      · rw [if_pos hm, hm]; simp
      · rw [if_neg hm]; simpa using hm
    | succ k =>
      rw [List.getElem_cons_succ]
      by_cases hm : Op.bytesLess m t = true
      · rw [if_pos hm, pos_less r t h2 k (by simpa using h)]; simp
      · rw [if_neg hm]
        have hk' : k < r.length := by simpa using h
        have : ¬ Op.bytesLess (r[k]'hk') t = true := fun hk => hm (less_trans (h1 _ (List.getElem_mem _)) hk)
        simpa using this
theorem kid_pos : ∀ (k : List (Bs × T)) (t : Bs), Rise k → kid k t = if (k.map (·.1))[pos (k.map (·.1)) t]? = some t then (k[pos (k.map (·.1)) t]?).map (·.2) else none
  | [], t, _ => rfl
  | (m, s) :: r, t, hr => by
    obtain ⟨h1, h2⟩ := List.pairwise_cons.1 hr
    have ih := kid_pos r t h2
    rw [kid, List.map_cons, pos]
    by_cases hm : m = t
    · subst hm
      rw [if_pos rfl, less_irr]
      simp
    · rw [if_neg hm]
      by_cases hl : Op.bytesLess m t = true
      · rw [if_pos hl, List.getElem?_cons_succ, List.getElem?_cons_succ]; exact ih
      · rw [if_neg hl, List.getElem?_cons_zero, if_neg (by simpa using hm)]
        have h3 := less_other hm hl
        exact kid_none r t (fun n hn => less_trans h3 (h1 n hn))
theorem upd_pos : ∀ (k : List (Bs × T)) (t : Bs) (o : Option T), Rise k → upd k t o =
    if (k.map (·.1))[pos (k.map (·.1)) t]? = some t then (match o with | none => k.eraseIdx (pos (k.map (·.1)) t) | some u => k.set (pos (k.map (·.1)) t) (t, u))
    else (match o with | none => k | some u => k.take (pos (k.map (·.1)) t) ++ (t, u) :: k.drop (pos (k.map (·.1)) t))
  | [], t, o, _ => by cases o <;> rfl
  | (m, s) :: r, t, o, hr => by
    obtain ⟨h1, h2⟩ := List.pairwise_cons.1 hr
    have ih := upd_pos r t o h2
    rw [upd, List.map_cons, pos]
    by_cases hm : m = t
    · subst hm
      rw [if_pos rfl, less_irr]
      cases o <;> simp [putO]
    · rw [if_neg hm]
      by_cases hl : Op.bytesLess m t = true
      · rw [if_pos hl, if_pos hl, List.getElem?_cons_succ, ih]
        split
        · cases o <;> simp
        · cases o <;> simp
      · rw [if_neg hl, if_neg hl, List.getElem?_cons_zero, if_neg (by simpa using hm)]
        cases o <;> simp [putO]
def sub1 (E : List PE) (n : Bs) : List PE := E.filterMap fun e => match e.1 with
  | [] => none
  | m :: q => if m = n then some (q, e.2) else none
theorem sub1_append (E F : List PE) (n : Bs) : sub1 (E ++ F) n = sub1 E n ++ sub1 F n := List.filterMap_append
theorem sub1_map (m n : Bs) : ∀ (E : List PE), sub1 (E.map (fun e => (m :: e.1, e.2))) n = if m = n then E else []
  | [] => by unfold sub1; simp
  | (q, l) :: r => by
    have ih := sub1_map m n r
    unfold sub1 at *
    rw [List.map_cons]
    by_cases h : m = n
    · rw [List.filterMap_cons_some (b := (q, l)) (by simp [h]), ih, if_pos h, if_pos h]
    · rw [List.filterMap_cons_none (by simp [h]), ih, if_neg h, if_neg h]
theorem sub1_other (n : Bs) : ∀ (k : List (Bs × T)), (∀ m ∈ k.map (·.1), m ≠ n) → sub1 (entriesL k) n = []
  | [], _ => rfl
  | (m, t) :: r, h => by
    rw [entriesL, sub1_append, sub1_map, if_neg (h m (by simp)), sub1_other n r (fun x hx => h x (by simp only [List.map_cons, List.mem_cons]; exact .inr hx))]
    rfl
theorem sub1_entriesL (n : Bs) : ∀ (k : List (Bs × T)), Rise k → sub1 (entriesL k) n = entriesO (kid k n)
  | [], _ => rfl
  | (m, t) :: r, hr => by
    obtain ⟨h1, h2⟩ := List.pairwise_cons.1 hr
    rw [entriesL, sub1_append, sub1_map, kid]
    by_cases h : m = n
    · subst h
      rw [if_pos rfl, if_pos rfl, sub1_other m r (fun x hx => by rintro rfl; have := h1 _ hx; rw [less_irr] at this; cases this), List.append_nil]
      rfl
    · rw [if_neg h, if_neg h, List.nil_append, sub1_entriesL n r h2]
theorem sub1_entries (n : Bs) (leaf : List Ver) (k : List (Bs × T)) (hr : Rise k) : sub1 (entries (.mk leaf k)) n = entriesO (kid k n) := by
  rw [entries, sub1_append, sub1_entriesL n k hr]
  split <;> rfl
def get0 : List PE → List Ver
  | [] => []
  | e :: r => if e.1 = [] then e.2 else get0 r
theorem get0_L : ∀ (E : List PE), (∀ e ∈ E, e.1 ≠ []) → get0 E = []
  | [], _ => rfl
  | e :: r, h => by rw [get0, if_neg (h e (List.mem_cons_self ..)), get0_L r (fun x hx => h x (List.mem_cons_of_mem _ hx))]
theorem get0_entries (leaf : List Ver) (k : List (Bs × T)) : get0 (entries (.mk leaf k)) = leaf := by
  have hL : get0 (entriesL k) = [] := get0_L _ (fun e he => by obtain ⟨n, q, h, _⟩ := entriesL_ne k e he; rw [h]; simp)
  rw [entries]
  split
  · rename_i h; rw [List.nil_append, hL, h]
  · rw [List.cons_append, get0, if_pos rfl]
def namesE : List Bs → List PE → List Bs
  | out, [] => out
  | out, e :: r => match e.1 with
    | [] => namesE out r
    | s :: _ => namesE (if out.getLast? = some s then out else out ++ [s]) r
theorem namesE_map (m : Bs) (R : List PE) : ∀ (E : List PE) (out : List Bs), E ≠ [] → namesE out (E.map (fun e => (m :: e.1, e.2)) ++ R) = namesE (if out.getLast? = some m then out else out ++ [m]) R
  | [], _, h => absurd rfl h
  | [e], out, _ => rfl
  | e :: f :: r, out, _ => by
    have ih := fun out' => namesE_map m R (f :: r) out' (by simp)
    show namesE (if out.getLast? = some m then out else out ++ [m]) ((f :: r).map (fun e => (m :: e.1, e.2)) ++ R) = _
    by_cases h : out.getLast? = some m
    · rw [if_pos h, ih, if_pos h]
    · rw [if_neg h, ih, if_pos (by simp)]
theorem namesE_L : ∀ (k : List (Bs × T)) (out : List Bs), Rise k → OkL k → (∀ m ∈ k.map (·.1), out.getLast? ≠ some m) → namesE out (entriesL k) = out ++ k.map (·.1)
  | [], out, _, _, _ => by rw [entriesL, namesE]; simp
  | (m, t) :: r, out, hr, hk, ho => by
    obtain ⟨h1, h2⟩ := List.pairwise_cons.1 hr
    rw [OkL] at hk
    rw [entriesL, namesE_map m _ _ _ hk.2.1, if_neg (ho m (by simp)), namesE_L r (out ++ [m]) h2 hk.2.2.2]
    · simp
    · intro x hx e
      rw [List.getLast?_append, List.getLast?_singleton, Option.some_or] at e
      cases e
      have := h1 _ hx
      rw [less_irr] at this
      cases this
theorem namesE_entries (leaf : List Ver) (k : List (Bs × T)) (hr : Rise k) (hk : OkL k) : namesE [] (entries (.mk leaf k)) = k.map (·.1) := by
  rw [entries]
  have h := namesE_L k [] hr hk (by intro m _ h; cases h)
  split
  · rw [List.nil_append, h]; rfl
  · rw [List.cons_append, namesE, List.nil_append, h]; rfl
end Sp
end Go.Proofs.YtmlfnidckfeebaaGreatDoor
namespace Go.Proofs.YtmlfnidckfeebaaGreatDoor
open Go.RowKit Go.Shelf
def innerC (A : Option Addr) (c : Nat) (B : Option Addr) (c' : Nat) (C : Option Addr) (c'' : Nat) (t : Sp.T) : Array Value :=
  (([.slice A t.leaf.length c, .slice B t.kids.length c', .slice C t.kids.length c'', .int .i64 (Sp.sizeT t : Nat)] : List Value) ++ (Sp.nsum (Sp.nodeT t)).map byteV ++ (Sp.nsum (Sp.nodeT (Sp.showT t))).map byteV ++ ([.bool (decide (Sp.entries (Sp.showT t) ≠ []))] : List Value)).toArray
def ptrsC (gs : List Nat) : List Value := gs.map fun g => .pointer (some ⟨g, 0, none⟩)
inductive InnerAt (w : World) : Nat → Sp.T → Prop where
  | mk (g : Nat) (t : Sp.T) (A B C : Option Addr) (c c' c'' : Nat) (gs : List Nat) (hx : isBlk w g 122 (innerC A c B c' C c'' t)) (hV : Vers w A t.leaf) (hN : Nams w B (t.kids.map (·.1)))
    (hl : gs.length = t.kids.length) (hC : Cells w C (ptrsC gs)) (hK : ∀ i (h : i < t.kids.length), InnerAt w (gs.getD i 0) (t.kids[i]).2) : InnerAt w g t
theorem InnerAt.ext {w w' : World} (e : Ext w w') {g : Nat} {t : Sp.T} (h : InnerAt w g t) : InnerAt w' g t := by
  induction h with
  | mk g t A B C c c' c'' gs hx hV hN hl hC hK ih => exact .mk g t A B C c c' c'' gs (hx.below e) (hV.ext e) (hN.ext e) hl (hC.ext e) ih
theorem fold_putsA (off : Nat) : ∀ (l : List Value) (k : Nat) (cs : Array Value), (l.zipIdx k).foldl (fun (cs : Array Value) (x : Value × Nat) => cs.setIfInBounds (off + x.2) x.1) cs = putsA cs (off + k) l
  | [], _, _ => rfl
  | v :: r, k, cs => by rw [List.zipIdx_cons, List.foldl_cons, fold_putsA off r (k + 1), putsA]; rfl
theorem fold_putsA' (off : Nat) (c : Array Value) (cs : Array Value) : c.zipIdx.foldl (fun cs (x, j) => cs.setIfInBounds (off + j) x) cs = putsA cs off c.toList := by
  rw [← Array.foldl_toList, Array.toList_zipIdx]
  exact fold_putsA off c.toList 0 cs
theorem fill_two (place : Nat → Option (Nat × Nat)) (z : Array Value) (s : ByteArray) (d : List Value) (hz : z.size = 1 + d.length) (h0 : place 0 = some (0, 1)) (h1 : place 1 = some (1, d.length)) :
    Instr.fill place z [(0, .string s), (1, .agg d.toArray)] = some (.string s :: d).toArray := by
  unfold Instr.fill
  rw [h0]
  simp only [show (Value.string s).cells = #[.string s] from rfl]
  rw [if_neg (by simp [hz]), fold_putsA']
  unfold Instr.fill
  rw [h1]
  simp only [show (Value.agg d.toArray).cells = d.toArray from rfl]
  rw [if_neg (by simp [putsA_size, hz]), fold_putsA']
  unfold Instr.fill
  congr 1
  apply Array.ext_getElem?
  intro m
  rw [putsA_get _ _ _ _ (by rw [putsA_size]; simp; omega), putsA_get _ _ _ _ (by simp; omega)]
  simp only [List.getElem?_toArray, List.length_cons, List.length_nil]
  by_cases h2 : m = 0
  · subst h2
    rw [if_neg (by omega), if_pos (by omega)]; rfl
  · rw [if_neg (c := 0 ≤ m ∧ m < 0 + (0 + 1)) (by omega)]
    by_cases h3 : m < 1 + d.length
    · rw [if_pos ⟨by omega, h3⟩]
      cases m with
      | zero => exact absurd rfl h2
      | succ m => simp
    · rw [if_neg (fun h => h3 h.2), Array.getElem?_eq_none (by omega), List.getElem?_eq_none (by simp; omega)]
theorem built_kid (k : Sp.Kid) (h : k.2.length = 32) : (Tryz.prog).built 268 [(0, .string (strOf k.1)), (1, .agg (k.2.map byteV).toArray)] = some (kidL k).toArray := by
  have e : (Tryz.prog).built 268 [(0, .string (strOf k.1)), (1, .agg (k.2.map byteV).toArray)] = Instr.fill (fun i => (#[(0, 1), (1, 32)] : Array (Nat × Nat))[i]?) (#[.string ⟨#[]⟩] ++ Array.replicate 32 (.int .u8 0)) [(0, .string (strOf k.1)), (1, .agg (k.2.map byteV).toArray)] := by kernel_rfl
  rw [e]
  exact fill_two _ _ _ _ (by simp [h]) rfl (by rw [List.length_map, h]; rfl)
section
variable {P : Program} {ops : Array Oper}
theorem det_build {S : World → Prop} {a : Act} {o : Oper} {K : Act → Prop} (hw : Region.wanted o (yielded ops a.tmps) = true) (t : TypeId) (parts : Array (Nat × Operand)) (ho : o.op = .build t parts) (cells : Array Value)
    (hb : P.built t (parts.map fun (i, x) => (i, a.eval x)).toList = some cells) (h : K (a.put o.dst (.agg cells))) : ∃ v, YieldsS P ops S o v a ∧ K (a.put o.dst v) := by
  refine ⟨_, .inl ⟨hw, fun W hS => ?_⟩, h⟩
  unfold execOp
  simp only [ho, Sem.run_bind, run_build W t _ cells hb, Result.andThen_ok, Sem.run_pure]
  exact ⟨rfl, hS⟩
theorem at_bslice {rest : List Oper} {o : Oper} {a : Act} {w : World} {Q : Exit → Act → World → Prop} {t : TypeId} {n : Nat} {ps : Array (Nat × Operand)} (_ho : o.op = .buildSlice t n ps) (h : wpList P ops Q (o :: rest) a w) : wpList P ops Q (o :: rest) a w := h
theorem bslice_one {rest : List Oper} {o : Oper} {a : Act} {w : World} {Q : Exit → Act → World → Prop} (hg : o.guard = none) (t e : TypeId) (x : Operand) (ho : o.op = .buildSlice t 1 #[(0, x)]) {size bytes : Nat} (hst : AppStat P t e size bytes) (hs : size ≤ 1000)
    (cells : Array Value) (hx : (a.eval x).cells = cells) (hc : cells.size = size)
    (h : wpList P ops Q rest (a.put o.dst (.slice (some ⟨w.heap.size, 0, none⟩) 1 1)) (w.alloc (.cells cells e))) : wpList P ops Q (o :: rest) a w := by
  obtain ⟨hu, h0, _, i, z, hi, hz, hsz, _, hzs⟩ := hst
  refine wpList_buildSlice hg t e 1 #[(0, x)] ho cells i z hu hi hz (by rw [hsz]; omega) (by rw [hsz]; omega) ?_ h
  have := Great.fill_whole (s := i.size) (by omega) [a.eval x] ((Array.range (1 * i.size)).map (z.cells[· % z.cells.size]!)) (by intro v hv; rw [List.mem_singleton.1 hv, hx, hc, hsz]) (by simp)
  simpa [hx] using this
end
theorem kidsT_map : ∀ (k : List (Sp.Bs × Sp.T)), Sp.kidsT k = k.map fun x => (x.1, Sp.nsum (Sp.nodeT x.2))
  | [] => rfl
  | (n, t) :: r => by rw [Sp.kidsT, kidsT_map r]; rfl
theorem kidsC_snoc (l : List Sp.Kid) (k : Sp.Kid) : kidsC (l ++ [k]) = kidsC l ++ kidL k := by
  induction l with
  | nil => simp [kidsC]
  | cons x r ih => rw [List.cons_append, kidsC, ih, kidsC, List.append_assoc]
theorem nodeT_kids (t : Sp.T) : (Sp.nodeT t).2 = t.kids.map fun x => (x.1, Sp.nsum (Sp.nodeT x.2)) := by
  cases t with
  | mk l k => rw [Sp.nodeT]; exact kidsT_map k
theorem nodeT_leaf (t : Sp.T) : (Sp.nodeT t).1 = t.leaf := by
  cases t with
  | mk l k => rfl
structure PreAt (w : World) (g : Nat) (t : Sp.T) (A B C : Option Addr) (c c' c'' : Nat) (gs : List Nat) (arr : Array Value) : Prop where
  blk : isBlk w g 122 arr
  size : arr.size = 69
  c0 : arr[0]? = some (.slice A t.leaf.length c)
  c1 : arr[1]? = some (.slice B t.kids.length c')
  c2 : arr[2]? = some (.slice C t.kids.length c'')
  V : Vers w A t.leaf
  N : Nams w B (t.kids.map (·.1))
  L : gs.length = t.kids.length
  P : Cells w C (ptrsC gs)
  K : ∀ i (h : i < t.kids.length), InnerAt w (gs.getD i 0) (t.kids[i]).2
theorem PreAt.ext {w w' : World} (e : Ext w w') {g : Nat} {t : Sp.T} {A B C : Option Addr} {c c' c'' : Nat} {gs : List Nat} {arr : Array Value} (h : PreAt w g t A B C c c' c'' gs arr) : PreAt w' g t A B C c c' c'' gs arr :=
  ⟨h.blk.below e, h.size, h.c0, h.c1, h.c2, h.V.ext e, h.N.ext e, h.L, h.P.ext e, fun i hi => (h.K i hi).ext e⟩
theorem ptrs_at {w : World} {gs : List Nat} {C : Option Addr} (h : Cells w C (ptrsC gs)) (k : Nat) (hk : k < gs.length) : ∃ cb co, C = some ⟨cb, co, none⟩ ∧ ∀ i, i < gs.length → w.cell? ⟨cb, co + i, none⟩ = some (.pointer (some ⟨gs.getD i 0, 0, none⟩)) := by
  have hne : ptrsC gs ≠ [] := by
    intro e
    have h3 : gs.length = 0 := by simpa [ptrsC] using congrArg List.length e
    omega
  obtain ⟨cb, co, hC, hc⟩ := h hne
  refine ⟨cb, co, hC, fun i hi => hc i _ ?_⟩
  simp [ptrsC, List.getD_eq_getElem?_getD, List.getElem?_eq_getElem hi]
theorem PreAt.at {w : World} {g : Nat} {t : Sp.T} {A B C : Option Addr} {c c' c'' : Nat} {gs : List Nat} {arr : Array Value} (h : PreAt w g t A B C c c' c'' gs arr) (k : Nat) (hk : k < t.kids.length) :
    ∃ cb co nb no, C = some ⟨cb, co, none⟩ ∧ B = some ⟨nb, no, none⟩ ∧ w.cell? ⟨cb, co + k, none⟩ = some (.pointer (some ⟨gs.getD k 0, 0, none⟩)) ∧ w.cell? ⟨nb, no + k, none⟩ = some (.string (strOf (t.kids[k]).1)) := by
  obtain ⟨cb, co, hC, hc⟩ := ptrs_at h.P k (by have := h.L; omega)
  obtain ⟨nb, no, hB, hn⟩ := h.N.at (by simp; omega)
  exact ⟨cb, co, nb, no, hC, hB, hc k (by have := h.L; omega), by have := hn k (by simpa using hk); rwa [List.getElem_map] at this⟩
theorem innerC_size (A : Option Addr) (c : Nat) (B : Option Addr) (c' : Nat) (C : Option Addr) (c'' : Nat) (t : Sp.T) : (innerC A c B c' C c'' t).size = 69 := by
  simp [innerC, Sp.nsum_len]
theorem InnerAt.pre {w : World} {g : Nat} {t : Sp.T} (h : InnerAt w g t) : ∃ A B C c c' c'' gs, PreAt w g t A B C c c' c'' gs (innerC A c B c' C c'' t) := by
  cases h with
  | mk g t A B C c c' c'' gs hx hV hN hl hC hK => exact ⟨A, B, C, c, c', c'', gs, hx, innerC_size .., rfl, rfl, rfl, hV, hN, hl, hC, hK⟩
theorem InnerAt.cells {w : World} {g : Nat} {t : Sp.T} (h : InnerAt w g t) : w.cell? ⟨g, 3, none⟩ = some (.int .i64 (Sp.sizeT t : Nat)) ∧ w.rangeAt g 4 ((Sp.nsum (Sp.nodeT t)).map byteV) ∧ w.rangeAt g 36 ((Sp.nsum (Sp.nodeT (Sp.showT t))).map byteV) ∧
    w.cell? ⟨g, 68, none⟩ = some (.bool (decide (Sp.entries (Sp.showT t) ≠ []))) := by
  cases h with
  | mk g t A B C c c' c'' gs hx hV hN hl hC hK =>
    have n1 := Sp.nsum_len (Sp.nodeT t)
    have n2 := Sp.nsum_len (Sp.nodeT (Sp.showT t))
    refine ⟨hx.cell 3, ?_, ?_, ?_⟩
    · refine hx.rangeAt 4 _ fun j v hj => ?_
      have hj2 := (List.getElem?_eq_some_iff.1 hj).1
      simp only [innerC, List.getElem?_toArray]
      rw [List.getElem?_append_left (by simp at hj2 ⊢; omega), List.getElem?_append_left (by simp at hj2 ⊢; omega), List.getElem?_append_right (by simp)]
      simpa using hj
    · refine hx.rangeAt 36 _ fun j v hj => ?_
      have hj2 := (List.getElem?_eq_some_iff.1 hj).1
      simp only [innerC, List.getElem?_toArray]
      rw [List.getElem?_append_left (by simp at hj2 ⊢; omega), List.getElem?_append_right (by simp [n1])]
      simpa [n1] using hj
    · rw [hx.cell 68]
      simp only [innerC, List.getElem?_toArray]
      rw [List.getElem?_append_right (by simp [n1, n2])]
      simp [n1, n2]
end Go.Proofs.YtmlfnidckfeebaaGreatDoor
namespace Go.Proofs.YtmlfnidckfeebaaGreatDoor
open Go.RowKit Go.Shelf
attribute [local go_sem] yUpon
theorem own_lowT' {w : World} {b b' n : Nat} {e : TypeId} {size : Nat} {v : Value} {xs : List Value} (h : w.ownsRow b e size v n xs) (hb : b' ≤ b) : w.ownsRow b' e size v n xs := by
  refine ⟨h.1, ?_⟩
  rcases h.2 with h2 | ⟨g, cap, cur, hv, hg, rest⟩
  · exact .inl h2
  · exact .inr ⟨g, cap, cur, hv, Nat.le_trans hb hg, rest⟩
set_option maxRecDepth 100000 in
set_option maxHeartbeats 4000000 in
theorem inodeO_calls (t : Sp.T) (g : Nat) (A B C : Option Addr) (c c' c'' : Nat) (gs : List Nat) (arr : Array Value) (w : World) (h : PreAt w g t A B C c c' c'' gs arr) (hl : t.leaf.length ≤ 1000000) (hp : ∀ v ∈ t.leaf, v.past.length ≤ 1000000)
    (hk : t.kids.length ≤ 1000000) (hn : ∀ x ∈ t.kids, x.1.length ≤ 1000000) :
    Calls Tryz.prog 220 #[.pointer (some ⟨g, 0, none⟩)] w fun e w' => ∃ A2 c2 B2 c3, e = .returned (nodeV A2 t.leaf.length c2 B2 t.kids.length c3) ∧ Vers w' A2 t.leaf ∧ Kids w' B2 (Sp.nodeT t).2 ∧ Ext w w' ∧ w'.ownsRow w.heap.size 268 33 (.slice B2 t.kids.length c3) t.kids.length (kidsC (Sp.nodeT t).2) := by
  have CP := Lib.hid fun W (e : Ext w W) => copied_calls t.leaf A c W (h.V.ext e) hl hp
  have HH := Lib.hid h
  have HP := Lib.hid hp
  have HN := Lib.hid hn
  clear h hp hn
  have tok1 : True := trivial
  have tok2 : True := trivial
  have tok3 : True := trivial
  go_enter Tryz.func220, Tryz.ntmps220
  go_wp2_with (first
    | (have _t := tok1; ((with_reducible refine at_alloc (t := 116) rfl ?_); refine box_new rfl (cs := #[.slice none 0 0, .slice none 0 0]) (t := 116) (by first | (go_simp; done) | (go_simp; rfl)) ?_; intro g2 w2 hg2 hx2 hb2; have H2 := Lib.hid hx2; have B2 := Lib.hid (show Ext w w2 from hb2); have GG2 := Lib.hid hg2; have f0 := (((HH.out.ext hb2).blk.cell 0).trans HH.out.c0); clear tok1 _t hx2 hb2 hg2)))
  refine (CP.out w2 B2.out).mono ?_
  rintro e w3 ⟨v3, rfl, hO3, hb3⟩
  obtain ⟨A2, c2, rfl, hV2⟩ := hO3.read
  have V3 := Lib.hid hV2
  have B3 := Lib.hid (B2.out.trans hb3)
  have B23 := Lib.hid (show Ext w2 w3 from hb3)
  clear hV2 hb3 hO3 f0 CP
  go_wp2_with (first
    | (have _t := tok2; ((with_reducible refine at_alloc (t := 116) rfl ?_); refine box_new rfl (cs := #[.slice none 0 0, .slice none 0 0]) (t := 116) (by first | (go_simp; done) | (go_simp; rfl)) ?_; intro g4 w4 hg4 hx4 hb4; have H4 := Lib.hid hx4; have B4 := Lib.hid (show Ext w3 w4 from hb4); have GG4 := Lib.hid hg4; have k0 := (hx4.cell 0).trans rfl; have k1 := (hx4.cell 1).trans rfl; have k2 := hx4.frozen 0; have k3 := hx4.frozen 1; have f2 := (((HH.out.ext (B3.out.trans hb4)).blk.cell 2).trans HH.out.c2); clear tok2 _t hx4 hb4 hg4)))
  obtain ⟨w5, hw5⟩ : ∃ w5, w5 = (w4.setCell ⟨g4, 0, none⟩ (.slice A2 t.leaf.length c2)).setCell ⟨g4, 1, none⟩ (.slice none 0 0) := ⟨_, rfl⟩
  have X5 := Lib.hid (show isBlk w5 g4 116 #[.slice A2 t.leaf.length c2, .slice none 0 0] by rw [hw5]; exact (H4.out.put 0 _ rfl).put 1 _ rfl)
  have G4 := Lib.hid (show g4 < w5.heap.size by exact X5.out.lt)
  have B5 := Lib.hid (show Ext w3 w5 by rw [hw5]; exact (B4.out.setCell GG4.out _).setCell GG4.out _)
  rw [← hw5]
  clear hw5 k0 k1 k2 k3 f2
  go_loopw [17] (fun v17 wr => ∃ (k : Nat) (v : Value), k ≤ t.kids.length ∧ v17 = .int .i64 k ∧ isBlk wr g4 116 #[.slice A2 t.leaf.length c2, v] ∧ wr.ownsRow (g4 + 1) 268 33 v k (kidsC ((Sp.nodeT t).2.take k)) ∧ Ext w3 wr ∧ g4 < wr.heap.size) (fun v17 _ => t.kids.length - (intOf v17).toNat)
  case atStart => exact ⟨0, _, Nat.zero_le _, rfl, X5.out, World.ownsRow_nil _ _ _ _, B5.out, G4.out⟩
  case round =>
    obtain ⟨k, v, hk2, rfl, hx, ho, hb, hgw⟩ := hrel
    have HX := Lib.hid hx
    have HO := Lib.hid ho
    have HB := Lib.hid hb
    have GW := Lib.hid hgw
    clear hx ho hb hgw
    by_cases hlt : k < t.kids.length
    · obtain ⟨cb, co, nb, no, rfl, rfl, pk, nk⟩ := HH.out.at k hlt
      have sk := (HH.out.K k hlt).cells.2.1
      obtain ⟨x, hxk⟩ : ∃ x, x = t.kids[k] := ⟨_, rfl⟩
      rw [← hxk] at sk
      rw [← hxk] at nk
      obtain ⟨gk, hgk⟩ : ∃ gk, gk = gs.getD k 0 := ⟨_, rfl⟩
      rw [← hgk] at pk sk
      have XK := Lib.hid hxk
      have E := Lib.hid (B3.out.trans HB.out)
      have p1 := E.out.cell pk
      have n1 := E.out.cell nk
      have f1 := (((HH.out.ext E.out).blk.cell 1).trans HH.out.c1)
      have PK := Lib.hid pk
      have NK := Lib.hid nk
      have b1 : (k : Int) < (t.kids.length : Int) := by omega
      have F1 := Lib.hid f1
      have N1 := Lib.hid n1
      obtain ⟨ds, hds⟩ : ∃ ds, ds = (Sp.nsum (Sp.nodeT x.2)).map byteV := ⟨_, rfl⟩
      rw [← hds] at sk
      have SKR := Lib.hid (show wr.drew.rangeAt gk 4 ds from fun j v hj => E.out.cell (sk j v hj))
      have DL := Lib.hid (show ds.length = 32 by rw [hds, List.length_map, Sp.nsum_len])
      obtain ⟨ka, hka⟩ : ∃ ka, ka = (kidL (x.1, Sp.nsum (Sp.nodeT x.2))).toArray := ⟨_, rfl⟩
      have BK := Lib.hid (show (Tryz.prog).built 268 [(0, .string (strOf x.1)), (1, .agg ds.toArray)] = some ka by rw [hka, hds]; exact built_kid (x.1, Sp.nsum (Sp.nodeT x.2)) (Sp.nsum_len _))
      have KA := Lib.hid hka
      have KS := Lib.hid (show ka.size = 1 * 33 by rw [hka, List.size_toArray, kidL_len _ (Sp.nsum_len _)])
      have KO := Lib.hid (show ∀ u ∈ ka.toList, u.oneCell' = true by
        rw [hka]
        intro u hu
        have : u ∈ kidsC [(x.1, Sp.nsum (Sp.nodeT x.2))] := by simpa [kidsC] using hu
        exact kids_one _ u this)
      clear hds hka
      clear pk nk sk hxk hgk
      go_wp2_with fail
      refine wp_region_det_preT (fun W => W = wr.drew) (fun W => Ext wr W) 2 14 (fun W e => by rw [e]; exact (Ext.refl _).drew) (by kernel_rfl) (by kernel_rfl) rfl ?_
      simp only [List.take_succ_cons, List.take_zero, List.drop_succ_cons, List.drop_zero]
      repeat (first
        | (refine floatT_step (fun K hK => ?_)
           apply Exists.intro
           refine ⟨Or.inl ⟨rfl, fun W hS => ?_⟩, ?_⟩
           · have hz : Ext wr W := hS; have f0 := ((HX.out.below hz).cell 1).trans rfl
             go_simp
             first | done | exact rfl
           go_simp
           refine hK _ ?_
           clear hK K))
      refine floatT_nil ?_
      repeat (first
        | (refine det_step (fun K hK => ?_); (first | (refine det_load_mid rfl 36 (.tmp 33) rfl gk 4 rfl ds _ (fun W hS => by rw [show W = wr.drew from hS]; exact SKR.out) Tryz.underlying36 rfl (by rw [DL.out]; kernel_rfl) ?_) | (refine det_build rfl 268 #[(0, .tmp 30), (1, .tmp 34)] rfl ka (by first | exact BK.out | (go_simp; exact BK.out)) ?_)); go_simp; refine hK _ ?_; clear hK K)
        | (refine det_step (fun K hK => ?_)
           apply Exists.intro
           refine ⟨Or.inl ⟨rfl, fun W hS => ?_⟩, ?_⟩
           · have hz : W = wr.drew := hS; subst hz; have f1 := (show wr.drew.cell? _ = _ from F1.out); have n1 := (show wr.drew.cell? _ = _ from N1.out)
             go_simp
             first
             | exact rfl
             | exact ⟨rfl, hS⟩
             | (fail)
           go_simp
           refine hK _ ?_
           clear hK K)
        | (refine det_step (fun K hK => ?_); refine det_no' rfl ?_; go_simp; refine hK _ ?_; clear hK K))
      refine det_nil ?_
      rintro W rfl
      have tokS : True := trivial
      have tokA : True := trivial
      go_wp2_with (have _t := tokS; (with_reducible refine at_bslice rfl ?_); refine bslice_one rfl 114 268 _ rfl appKid (by decide) ka rfl KS.out ?_; clear tokS _t)
      refine ⟨rfl, (Below.refl _ _).drew.alloc (Nat.le_refl _) _, ?_⟩
      go_wp2_with (have _t := tokA; at_builtin; refine app_new appKid rfl _ _ rfl (g4 + 1) v k _ rfl (owned_drew HO.out) ka 268 1 rfl KS.out KO.out (by decide) (by omega) GW.out ?_; intro g6 cap6 w6 hown6 hgr6 hb6 hbg6; have HO6 := Lib.hid hown6; have HB6 := Lib.hid hb6; have GB6 := Lib.hid hbg6; have Z6 := Lib.hid (show isBlk w6 g4 116 #[.slice A2 t.leaf.length c2, v] from (hb6.block g4 (Nat.lt_succ_self _)).trans HX.out); have k0 := (Z6.out.cell 1).trans rfl; have k1 := Z6.out.frozen 1; clear hown6 hgr6 hb6 hbg6 tokA _t)
      refine ⟨rfl, ?_⟩
      go_wp2
      have hkl : k < (Sp.nodeT t).2.length := by rw [nodeT_kids, List.length_map]; exact hlt
      have e1 : kidsC ((Sp.nodeT t).2.take (k + 1)) = kidsC ((Sp.nodeT t).2.take k) ++ ka.toList := by
        rw [List.take_succ_eq_append_getElem hkl, kidsC_snoc, KA.out]
        congr 1
        simp only [nodeT_kids, List.getElem_map, ← XK.out]
      refine ⟨⟨k + 1, .slice (some ⟨g6, 0, none⟩) (k + 1) cap6, by omega, by go_num, Z6.out.put 1 _ rfl, ?_, ?_, ?_⟩, by simp [intOf]; omega⟩
      · rw [e1]
        exact own_far HO6.out (fun e => by have e2 : g6 = g4 := Option.some.inj e
                                           have := GB6.out; omega) _
      · exact (Below.trans HB.out (Below.trans (Below.refl _ _).drew (below_lower HB6.out (show w3.heap.size ≤ g4 + 1 from Nat.le_succ_of_le GG4.out)))).setCell GG4.out _
      · have := HB6.out.size
        have := GW.out
        simp at *
        omega
    · obtain rfl : k = t.kids.length := by omega
      have OW := HO.out
      obtain ⟨Bk, c3, rfl, hK⟩ := own_read HO.out
      have hne : g2 ≠ g4 := by have := H2.out.lt; have := B23.out.size; have := GG4.out; omega
      have HZ := Lib.hid (show isBlk wr g2 116 #[.slice none 0 0, .slice none 0 0] from H2.out.below (B23.out.trans HB.out))
      have k0 := (HX.out.cell 0).trans rfl
      have k1 := (HX.out.cell 1).trans rfl
      have k2 := (HZ.out.cell 0).trans rfl
      have k3 := (HZ.out.cell 1).trans rfl
      have k4 := HZ.out.frozen 0
      have k5 := HZ.out.frozen 1
      go_wp2
      have hz := (HZ.out.put 0 (.slice A2 t.leaf.length c2) rfl).put 1 (.slice Bk t.kids.length c3) rfl
      refine bodyPost_ret (results_cell_row rfl _ _ g2 116 #[.slice A2 t.leaf.length c2, .slice Bk t.kids.length c3] (0, 0) _ rfl hz Tryz.underlying116 rfl (by kernel_rfl)) rfl ?_
      have e1 := (Only.set g2 0 (.slice A2 t.leaf.length c2) wr).trans (Only.set g2 1 (.slice Bk t.kids.length c3) _)
      have hs : ∀ z ∈ (#[.slice none 0 0, .slice none 0 0] : Array Value).toList, isSl z = true := by decide
      have hlen : (Sp.nodeT t).2.length = t.kids.length := by rw [nodeT_kids, List.length_map]
      rw [List.take_of_length_le (by omega)] at hK OW
      have KK : Kids wr Bk (Sp.nodeT t).2 := ⟨hK, fun x hx => by
        rw [nodeT_kids] at hx
        obtain ⟨y, hy, rfl⟩ := List.mem_map.1 hx
        exact ⟨Sp.nsum_len _, HN.out y hy⟩⟩
      have BW := B3.out.trans HB.out
      refine ⟨A2, c2, Bk, c3, rfl, (V3.out.ext HB.out).apart e1 HZ.out hs, KK.apart e1 HZ.out hs, BW.from' (e1.below GG2.out BW.size), ?_⟩
      have hlow : w.heap.size ≤ g4 + 1 := by have := B3.out.size; have := GG4.out; omega
      have hfar : (Value.slice Bk t.kids.length c3).ownBlock ≠ some g2 := fun e => by
        have h1 := (OW.lt g2 e).1
        have h2 := H2.out.lt
        have h3 := B23.out.size
        have h4 := GG4.out
        omega
      exact own_lowT' (own_far (own_far OW hfar _) hfar _) hlow
theorem inode_calls (t : Sp.T) (g : Nat) (A B C : Option Addr) (c c' c'' : Nat) (gs : List Nat) (arr : Array Value) (w : World) (h : PreAt w g t A B C c c' c'' gs arr) (hl : t.leaf.length ≤ 1000000) (hp : ∀ v ∈ t.leaf, v.past.length ≤ 1000000)
    (hk : t.kids.length ≤ 1000000) (hn : ∀ x ∈ t.kids, x.1.length ≤ 1000000) :
    Calls Tryz.prog 220 #[.pointer (some ⟨g, 0, none⟩)] w fun e w' => ∃ A2 c2 B2 c3, e = .returned (nodeV A2 t.leaf.length c2 B2 t.kids.length c3) ∧ Vers w' A2 t.leaf ∧ Kids w' B2 (Sp.nodeT t).2 ∧ Ext w w' :=
  (inodeO_calls t g A B C c c' c'' gs arr w h hl hp hk hn).mono fun _ _ ⟨A2, c2, B2, c3, h1, h2, h3, h4, _⟩ => ⟨A2, c2, B2, c3, h1, h2, h3, h4⟩
def OptAt (w : World) (v : Value) (o : Option Sp.T) : Prop := (o = none ∧ v = .pointer none) ∨ ∃ g t, o = some t ∧ v = .pointer (some ⟨g, 0, none⟩) ∧ InnerAt w g t
theorem OptAt.ext {w w' : World} (e : Ext w w') {v : Value} {o : Option Sp.T} (h : OptAt w v o) : OptAt w' v o := by
  rcases h with h | ⟨g, t, h1, h2, h3⟩
  · exact .inl h
  · exact .inr ⟨g, t, h1, h2, h3.ext e⟩
set_option maxRecDepth 100000 in
set_option maxHeartbeats 4000000 in
theorem ikid_pre (t : Sp.T) (g : Nat) (n : Sp.Bs) (w : World) (A B C : Option Addr) (c c' c'' : Nat) (gs : List Nat) (arr : Array Value) (hp : PreAt w g t A B C c c' c'' gs arr) (hr : Sp.Rise t.kids) (hk : t.kids.length ≤ 1000000) :
    Calls Tryz.prog 156 #[.pointer (some ⟨g, 0, none⟩), .string (strOf n)] w fun e w' => ∃ v, e = .returned v ∧ OptAt w' v (Sp.kid t.kids n) ∧ Ext w w' := by
  obtain ⟨p, hpp⟩ : ∃ p, p = Sp.pos (t.kids.map (·.1)) n := ⟨_, rfl⟩
  have hple : p ≤ (t.kids.map (·.1)).length := by rw [hpp]; exact Sp.pos_le _ _
  have hpl := Sp.pos_less (t.kids.map (fun x : Sp.Bs × Sp.T => x.1)) n hr
  have KP := Lib.hid (Sp.kid_pos t.kids n hr)
  rw [← hpp] at KP hpl
  have hlen : (t.kids.map (·.1)).length = t.kids.length := List.length_map ..
  have BC := Lib.hid (bin_calls (t.kids.map (·.1)) n p B c' w hp.N (by omega) hple hpl)
  rw [hlen] at BC hple
  obtain ⟨bb, hbb⟩ : ∃ bb : Bool, bb = decide ((t.kids.map (·.1))[p]? = some n) := ⟨_, rfl⟩
  rw [← hbb] at BC
  have HBB := Lib.hid hbb
  have HP := Lib.hid hp
  have f1 := (hp.blk.cell 1).trans hp.c1
  clear hpl hp hpp hr hbb
  go_enter Tryz.func156, Tryz.ntmps156
  go_wp2_with fail
  refine BC.out.mono ?_
  rintro e w1 ⟨rfl, hb⟩
  have HB := Lib.hid hb
  clear hb f1 BC
  by_cases hn : (t.kids.map (·.1))[p]? = some n
  · have hlt : p < t.kids.length := by have := (List.getElem?_eq_some_iff.1 hn).1; simpa using this
    obtain rfl : bb = true := by rw [HBB.out]; exact decide_eq_true hn
    have K2 := Lib.hid (show Sp.kid t.kids n = some (t.kids[p]).2 by rw [KP.out, if_pos hn, List.getElem?_eq_getElem hlt]; rfl)
    obtain ⟨cb, co, nb, no, rfl, rfl, pk, nk⟩ := HP.out.at p hlt
    have IK := Lib.hid (HP.out.K p hlt)
    obtain ⟨gk, hgk⟩ : ∃ gk, gk = gs.getD p 0 := ⟨_, rfl⟩
    rw [← hgk] at pk IK
    have f2 := ((HP.out.ext HB.out).blk.cell 2).trans HP.out.c2
    have p1 := HB.out.cell pk
    have b1 : (p : Int) < (t.kids.length : Int) := by omega
    clear hn nk pk hgk
    go_wp2
    go_ret
    exact ⟨_, rfl, .inr ⟨gk, _, K2.out, rfl, IK.out.ext HB.out⟩, HB.out⟩
  · obtain rfl : bb = false := by rw [HBB.out]; exact decide_eq_false hn
    have K2 := Lib.hid (show Sp.kid t.kids n = none by rw [KP.out, if_neg hn])
    clear hn
    go_wp2
    go_ret
    exact ⟨_, rfl, .inl ⟨K2.out, rfl⟩, HB.out⟩
theorem ikid_calls (t : Sp.T) (g : Nat) (n : Sp.Bs) (w : World) (h : InnerAt w g t) (hr : Sp.Rise t.kids) (hk : t.kids.length ≤ 1000000) :
    Calls Tryz.prog 156 #[.pointer (some ⟨g, 0, none⟩), .string (strOf n)] w fun e w' => ∃ v, e = .returned v ∧ OptAt w' v (Sp.kid t.kids n) ∧ Ext w w' := by
  obtain ⟨A, B, C, c, c', c'', gs, hp⟩ := h.pre
  exact ikid_pre t g n w A B C c c' c'' gs _ hp hr hk
end Go.Proofs.YtmlfnidckfeebaaGreatDoor
namespace Go.Proofs.YtmlfnidckfeebaaGreatDoor
open Go.RowKit Go.Shelf
theorem putsA_mid (X d e Y : List Value) (n : Nat) (hn : n = X.length) (h : e.length = d.length) : putsA (X ++ d ++ Y).toArray n e = (X ++ e ++ Y).toArray := by
  subst hn
  apply Array.ext_getElem?
  intro m
  rw [putsA_get _ _ _ _ (by simp; omega)]
  simp only [List.getElem?_toArray, List.getElem?_append, List.length_append]
  by_cases h1 : m < X.length
  · have a1 : m < X.length + d.length := by omega
    have a2 : m < X.length + e.length := by omega
    have a3 : ¬ (X.length ≤ m ∧ m < X.length + e.length) := by omega
    rw [if_neg a3]
    simp only [a1, a2, h1, if_true]
  · by_cases h2 : m < X.length + e.length
    · have a1 : m < X.length + d.length := by omega
      have a3 : X.length ≤ m ∧ m < X.length + e.length := by omega
      rw [if_pos a3]
      simp only [h1, h2, if_true, if_false]
    · have a1 : ¬ m < X.length + d.length := by omega
      have a3 : ¬ (X.length ≤ m ∧ m < X.length + e.length) := by omega
      rw [if_neg a3]
      simp only [a1, h, if_false]
def pcC (A : Option Addr) (la c : Nat) (B : Option Addr) (lk c' : Nat) (C : Option Addr) (c'' : Nat) (n : Value) (d1 d2 : List Value) (b : Value) : Array Value :=
  (([.slice A la c, .slice B lk c', .slice C lk c'', n] : List Value) ++ d1 ++ d2 ++ [b]).toArray
section
variable {A B C : Option Addr} {la c lk c' c'' : Nat} {n n' : Value} {d1 d2 e1 e2 : List Value} {b b' : Value}
theorem pc_size (h1 : d1.length = 32) (h2 : d2.length = 32) : (pcC A la c B lk c' C c'' n d1 d2 b).size = 69 := by simp [pcC, h1, h2]
theorem pc_get3 : (pcC A la c B lk c' C c'' n d1 d2 b)[3]? = some n := by simp [pcC]
theorem pc_get68 (h1 : d1.length = 32) (h2 : d2.length = 32) : (pcC A la c B lk c' C c'' n d1 d2 b)[68]? = some b := by
  simp only [pcC, List.getElem?_toArray]
  rw [List.getElem?_append_right (by simp [h1, h2])]
  simp [h1, h2]
theorem pc_set3 : (pcC A la c B lk c' C c'' n d1 d2 b).setIfInBounds 3 n' = pcC A la c B lk c' C c'' n' d1 d2 b := by simp [pcC]
theorem pc_puts4 (h : e1.length = d1.length) : putsA (pcC A la c B lk c' C c'' n d1 d2 b) 4 e1 = pcC A la c B lk c' C c'' n e1 d2 b := by
  have := putsA_mid [.slice A la c, .slice B lk c', .slice C lk c'', n] d1 e1 (d2 ++ [b]) 4 rfl h
  simpa only [pcC, List.append_assoc] using this
theorem pc_puts36 (h1 : d1.length = 32) (h : e2.length = d2.length) : putsA (pcC A la c B lk c' C c'' n d1 d2 b) 36 e2 = pcC A la c B lk c' C c'' n d1 e2 b := by
  have := putsA_mid ([.slice A la c, .slice B lk c', .slice C lk c'', n] ++ d1) d2 e2 [b] 36 (by simp [h1]) h
  simpa only [pcC, List.append_assoc] using this
theorem pc_set68 (h1 : d1.length = 32) (h2 : d2.length = 32) : (pcC A la c B lk c' C c'' n d1 d2 b).setIfInBounds 68 b' = pcC A la c B lk c' C c'' n d1 d2 b' := by
  have := putsA_mid ([.slice A la c, .slice B lk c', .slice C lk c'', n] ++ d1 ++ d2) [b] [b'] [] 68 (by simp [h1, h2]) rfl
  simpa only [pcC, List.append_nil, putsA] using this
end
theorem store_run {P : Program} {w : World} {g : Nat} {t : TypeId} {cs : Array Value} (h : isBlk w g t cs) (off : Nat) (D : Array Value) (hl : off + D.size ≤ cs.size) (h1 : D.all (·.oneCell') = true) :
    (storeCells ⟨g, off, none⟩ D.toList).run P w = .ok () (w.setCells g off D.toList) := by
  have := run_storeCells_cells (P := P) g off D.toList 0 w (fun j hj => by rw [h.cell, Array.getElem?_eq_getElem (by simp at hj; omega)]; rfl) (fun j _ => h.frozen _) (fun v hv => (Array.all_eq_true_iff_forall_mem.1 h1) v (by simpa using hv))
  simpa using this
theorem sets_pc {w : World} {g : Nat} {T : TypeId} {A B C : Option Addr} {la c lk c' c'' : Nat} {n : Value} {d1 d2 e2 : List Value} {b : Value} (h : isBlk w g T (pcC A la c B lk c' C c'' n d1 d2 b)) (h1 : d1.length = 32) (h2 : e2.length = d2.length) :
    isBlk (w.setCells g 36 e2) g T (pcC A la c B lk c' C c'' n d1 e2 b) := by
  have := isBlk.puts e2 36 h
  rwa [pc_puts36 h1 h2] at this
namespace Sp
theorem sizeL_append : ∀ (a b : List (Bs × T)), sizeL (a ++ b) = sizeL a + sizeL b
  | [], b => by simp [sizeL]
  | (n, t) :: a, b => by rw [List.cons_append, sizeL, sizeL, sizeL_append a b]; omega
theorem showL_append : ∀ (a b : List (Bs × T)), showL (a ++ b) = showL a ++ showL b
  | [], b => rfl
  | (n, t) :: a, b => by
    rw [List.cons_append, showL, showL, showL_append a b]
    split <;> rfl
theorem showL_len : ∀ (a : List (Bs × T)), (showL a).length ≤ a.length
  | [] => Nat.le_refl _
  | (n, t) :: a => by
    have := showL_len a
    rw [showL]
    split <;> simp <;> omega
theorem showL_mem : ∀ (a : List (Bs × T)), ∀ x ∈ showL a, ∃ y ∈ a, y.1 = x.1
  | [], x, h => by cases h
  | (n, t) :: a, x, h => by
    rw [showL] at h
    split at h
    · obtain ⟨y, hy, e⟩ := showL_mem a x h
      exact ⟨y, List.mem_cons_of_mem _ hy, e⟩
    · rcases List.mem_cons.1 h with rfl | h
      · exact ⟨(n, t), List.mem_cons_self .., rfl⟩
      · obtain ⟨y, hy, e⟩ := showL_mem a x h
        exact ⟨y, List.mem_cons_of_mem _ hy, e⟩
def n0 (t : T) : Nat := if t.leaf = [] then 0 else 1
theorem sizeT_n0 : ∀ t : T, sizeT t = n0 t + sizeL t.kids
  | .mk _ _ => rfl
def shk (t : T) (k : Nat) : List Kid := (showL (t.kids.take k)).map fun x => (x.1, nsum (nodeT x.2))
theorem shk_succ (t : T) (k : Nat) (h : k < t.kids.length) : shk t (k + 1) = shk t k ++ if entries (showT (t.kids[k]).2) = [] then [] else [((t.kids[k]).1, nsum (nodeT (showT (t.kids[k]).2)))] := by
  unfold shk
  rw [List.take_succ_eq_append_getElem h, showL_append, List.map_append]
  congr 1
  rcases t.kids[k] with ⟨n, s⟩
  simp only [showL]
  split <;> rfl
theorem size_succ (t : T) (k : Nat) (h : k < t.kids.length) : sizeL (t.kids.take (k + 1)) = sizeL (t.kids.take k) + sizeT (t.kids[k]).2 := by
  rw [List.take_succ_eq_append_getElem h, sizeL_append]
  rcases t.kids[k] with ⟨n, s⟩
  simp [sizeL]
theorem sizeL_take (k : List (Bs × T)) (n : Nat) : sizeL (k.take n) ≤ sizeL k := by
  have := sizeL_append (k.take n) (k.drop n)
  rw [List.take_append_drop] at this
  omega
theorem size_kid : ∀ (k : List (Bs × T)), ∀ x ∈ k, sizeT x.2 ≤ sizeL k
  | [], x, h => by cases h
  | (n, t) :: r, x, h => by
    rw [sizeL]
    rcases List.mem_cons.1 h with rfl | h
    · show sizeT t ≤ _
      omega
    · have := size_kid r x h; omega
theorem show_node (t : T) : nodeT (showT t) = (live t.leaf, shk t t.kids.length) := by
  cases t with
  | mk l k =>
    unfold shk
    rw [showT, nodeT, kidsT_map]
    simp [T.leaf, T.kids]
theorem shown_dec (t : T) : (!decide (live t.leaf = [] ∧ shk t t.kids.length = [])) = decide (entries (showT t) ≠ []) := by
  cases t with
  | mk l k =>
    have h := shown_iff l k
    have e : (shk (.mk l k) (T.mk l k).kids.length = []) ↔ showL k = [] := by
      unfold shk
      simp [T.kids]
    simp only [T.leaf, e, h]
    by_cases h2 : entries (showT (.mk l k)) = [] <;> simp [h2]
end Sp
end Go.Proofs.YtmlfnidckfeebaaGreatDoor
