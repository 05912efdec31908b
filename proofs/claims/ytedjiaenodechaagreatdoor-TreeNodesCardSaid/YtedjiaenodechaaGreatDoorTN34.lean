/- Walks: what stands by a name. Walks: what stands at a directory is made: its cells, plain. -/
import Derived.Test.YtedjiaenodechaaGreatDoorTN33
import Derived.Test.YtedjiaenodechaaGreatDoorTN27
namespace Go.Proofs.YtedjiaenodechaaGreatDoor
open Go.RowKit Go.Shelf
attribute [local go_sem] yUpon
/-- A pointer to what stands somewhere, or to nothing. -/
def OptAt (w : World) (v : Value) (o : Option Sp.T) : Prop := (o = none ∧ v = .pointer none) ∨ ∃ g t, o = some t ∧ v = .pointer (some ⟨g, 0, none⟩) ∧ InnerAt w g t
theorem OptAt.ext {w w' : World} (e : Ext w w') {v : Value} {o : Option Sp.T} (h : OptAt w v o) : OptAt w' v o := by
  rcases h with h | ⟨g, t, h1, h2, h3⟩
  · exact .inl h
  · exact .inr ⟨g, t, h1, h2, h3.ext e⟩
set_option maxRecDepth 100000 in
set_option maxHeartbeats 4000000 in
theorem ikid_pre (t : Sp.T) (g : Nat) (n : Sp.Bs) (w : World) (A B C : Option Addr) (c c' c'' : Nat) (gs : List Nat) (arr : Array Value) (hp : PreAt w g t A B C c c' c'' gs arr) (hr : Sp.Rise t.kids) (hk : t.kids.length ≤ 1000000) :
    Calls Tryz.prog 70 #[.pointer (some ⟨g, 0, none⟩), .string (strOf n)] w fun e w' => ∃ v, e = .returned v ∧ OptAt w' v (Sp.kid t.kids n) ∧ Ext w w' := by
  obtain ⟨p, hpp⟩ : ∃ p, p = Sp.pos (t.kids.map (·.1)) n := ⟨_, rfl⟩
  have hple : p ≤ (t.kids.map (·.1)).length := by rw [hpp]; exact Sp.pos_le _ _
  have hpl := Sp.pos_less (t.kids.map (fun x : Sp.Bs × Sp.T => x.1)) n hr
  have KP := Lib.hid (Sp.kid_pos t.kids n hr)
  rw [← hpp] at KP hpl
  have hlen : (t.kids.map (·.1)).length = t.kids.length := List.length_map ..
  have BC := Lib.hid (bin_calls (t.kids.map (·.1)) n p B c' w hp.N (by omega) hple hpl)
  rw [hlen] at BC hple
  obtain ⟨bb, hbb⟩ : ∃ bb : Bool, bb = decide ((t.kids.map (·.1))[p]? = some n) := ⟨_, rfl⟩
  rw [← hbb] at BC
  have HBB := Lib.hid hbb
  have HP := Lib.hid hp
  have f1 := (hp.blk.cell 1).trans hp.c1
  clear hpl hp hpp hr hbb
  go_enter Tryz.func70, Tryz.ntmps70
  go_wp2_with fail
  refine BC.out.mono ?_
  rintro e w1 ⟨rfl, hb⟩
  have HB := Lib.hid hb
  clear hb f1 BC
  by_cases hn : (t.kids.map (·.1))[p]? = some n
  · have hlt : p < t.kids.length := by have := (List.getElem?_eq_some_iff.1 hn).1; simpa using this
    obtain rfl : bb = true := by rw [HBB.out]; exact decide_eq_true hn
    have K2 := Lib.hid (show Sp.kid t.kids n = some (t.kids[p]).2 by rw [KP.out, if_pos hn, List.getElem?_eq_getElem hlt]; rfl)
    obtain ⟨cb, co, nb, no, rfl, rfl, pk, nk⟩ := HP.out.at p hlt
    have IK := Lib.hid (HP.out.K p hlt)
    obtain ⟨gk, hgk⟩ : ∃ gk, gk = gs.getD p 0 := ⟨_, rfl⟩
    rw [← hgk] at pk IK
    have f2 := ((HP.out.ext HB.out).blk.cell 2).trans HP.out.c2
    have p1 := HB.out.cell pk
    have b1 : (p : Int) < (t.kids.length : Int) := by omega
    clear hn nk pk hgk
    go_wp2
    go_ret
    exact ⟨_, rfl, .inr ⟨gk, _, K2.out, rfl, IK.out.ext HB.out⟩, HB.out⟩
  · obtain rfl : bb = false := by rw [HBB.out]; exact decide_eq_false hn
    have K2 := Lib.hid (show Sp.kid t.kids n = none by rw [KP.out, if_neg hn])
    clear hn
    go_wp2
    go_ret
    exact ⟨_, rfl, .inl ⟨K2.out, rfl⟩, HB.out⟩
theorem ikid_calls (t : Sp.T) (g : Nat) (n : Sp.Bs) (w : World) (h : InnerAt w g t) (hr : Sp.Rise t.kids) (hk : t.kids.length ≤ 1000000) :
    Calls Tryz.prog 70 #[.pointer (some ⟨g, 0, none⟩), .string (strOf n)] w fun e w' => ∃ v, e = .returned v ∧ OptAt w' v (Sp.kid t.kids n) ∧ Ext w w' := by
  obtain ⟨A, B, C, c, c', c'', gs, hp⟩ := h.pre
  exact ikid_pre t g n w A B C c c' c'' gs _ hp hr hk
end Go.Proofs.YtedjiaenodechaaGreatDoor
namespace Go.Proofs.YtedjiaenodechaaGreatDoor
open Go.RowKit Go.Shelf
theorem putsA_mid (X d e Y : List Value) (n : Nat) (hn : n = X.length) (h : e.length = d.length) : putsA (X ++ d ++ Y).toArray n e = (X ++ e ++ Y).toArray := by
  subst hn
  apply Array.ext_getElem?
  intro m
  rw [putsA_get _ _ _ _ (by simp; omega)]
  simp only [List.getElem?_toArray, List.getElem?_append, List.length_append]
  by_cases h1 : m < X.length
  · have a1 : m < X.length + d.length := by omega
    have a2 : m < X.length + e.length := by omega
    have a3 : ¬ (X.length ≤ m ∧ m < X.length + e.length) := by omega
    rw [if_neg a3]
    simp only [a1, a2, h1, if_true]
  · by_cases h2 : m < X.length + e.length
    · have a1 : m < X.length + d.length := by omega
      have a3 : X.length ≤ m ∧ m < X.length + e.length := by omega
      rw [if_pos a3]
      simp only [h1, h2, if_true, if_false]
    · have a1 : ¬ m < X.length + d.length := by omega
      have a3 : ¬ (X.length ≤ m ∧ m < X.length + e.length) := by omega
      rw [if_neg a3]
      simp only [a1, h2, h, if_false]
/-- The cells of what stands at a directory, or will stand there. -/
def pcC (A : Option Addr) (la c : Nat) (B : Option Addr) (lk c' : Nat) (C : Option Addr) (c'' : Nat) (n : Value) (d1 d2 : List Value) (b : Value) : Array Value :=
  (([.slice A la c, .slice B lk c', .slice C lk c'', n] : List Value) ++ d1 ++ d2 ++ [b]).toArray
section
variable {A B C : Option Addr} {la c lk c' c'' : Nat} {n n' : Value} {d1 d2 e1 e2 : List Value} {b b' : Value}
theorem pc_size (h1 : d1.length = 32) (h2 : d2.length = 32) : (pcC A la c B lk c' C c'' n d1 d2 b).size = 69 := by simp [pcC, h1, h2]
theorem pc_get3 : (pcC A la c B lk c' C c'' n d1 d2 b)[3]? = some n := by simp [pcC]
theorem pc_get68 (h1 : d1.length = 32) (h2 : d2.length = 32) : (pcC A la c B lk c' C c'' n d1 d2 b)[68]? = some b := by
  simp only [pcC, List.getElem?_toArray]
  rw [List.getElem?_append_right (by simp [h1, h2])]
  simp [h1, h2]
theorem pc_set3 : (pcC A la c B lk c' C c'' n d1 d2 b).setIfInBounds 3 n' = pcC A la c B lk c' C c'' n' d1 d2 b := by simp [pcC]
theorem pc_puts4 (h : e1.length = d1.length) : putsA (pcC A la c B lk c' C c'' n d1 d2 b) 4 e1 = pcC A la c B lk c' C c'' n e1 d2 b := by
  have := putsA_mid [.slice A la c, .slice B lk c', .slice C lk c'', n] d1 e1 (d2 ++ [b]) 4 rfl h
  simpa only [pcC, List.append_assoc] using this
theorem pc_puts36 (h1 : d1.length = 32) (h : e2.length = d2.length) : putsA (pcC A la c B lk c' C c'' n d1 d2 b) 36 e2 = pcC A la c B lk c' C c'' n d1 e2 b := by
  have := putsA_mid ([.slice A la c, .slice B lk c', .slice C lk c'', n] ++ d1) d2 e2 [b] 36 (by simp [h1]) h
  simpa only [pcC, List.append_assoc] using this
theorem pc_set68 (h1 : d1.length = 32) (h2 : d2.length = 32) : (pcC A la c B lk c' C c'' n d1 d2 b).setIfInBounds 68 b' = pcC A la c B lk c' C c'' n d1 d2 b' := by
  have := putsA_mid ([.slice A la c, .slice B lk c', .slice C lk c'', n] ++ d1 ++ d2) [b] [b'] [] 68 (by simp [h1, h2]) rfl
  simpa only [pcC, List.append_nil, putsA] using this
end
theorem store_run {P : Program} {w : World} {g : Nat} {t : TypeId} {cs : Array Value} (h : isBlk w g t cs) (off : Nat) (D : Array Value) (hl : off + D.size ≤ cs.size) (h1 : D.all (·.oneCell') = true) :
    (storeCells ⟨g, off, none⟩ D.toList).run P w = .ok () (w.setCells g off D.toList) := by
  have := run_storeCells_cells (P := P) g off D.toList 0 w (fun j hj => by rw [h.cell, Array.getElem?_eq_getElem (by simp at hj; omega)]; rfl) (fun j _ => h.frozen _) (fun v hv => (Array.all_eq_true_iff_forall_mem.1 h1) v (by simpa using hv))
  simpa using this
theorem sets_pc {w : World} {g : Nat} {T : TypeId} {A B C : Option Addr} {la c lk c' c'' : Nat} {n : Value} {d1 d2 e2 : List Value} {b : Value} (h : isBlk w g T (pcC A la c B lk c' C c'' n d1 d2 b)) (h1 : d1.length = 32) (h2 : e2.length = d2.length) :
    isBlk (w.setCells g 36 e2) g T (pcC A la c B lk c' C c'' n d1 e2 b) := by
  have := isBlk.puts e2 36 h
  rwa [pc_puts36 h1 h2] at this
namespace Sp
theorem sizeL_append : ∀ (a b : List (Bs × T)), sizeL (a ++ b) = sizeL a + sizeL b
  | [], b => by simp [sizeL]
  | (n, t) :: a, b => by rw [List.cons_append, sizeL, sizeL, sizeL_append a b]; omega
theorem showL_append : ∀ (a b : List (Bs × T)), showL (a ++ b) = showL a ++ showL b
  | [], b => rfl
  | (n, t) :: a, b => by
    rw [List.cons_append, showL, showL, showL_append a b]
    split <;> rfl
theorem showL_len : ∀ (a : List (Bs × T)), (showL a).length ≤ a.length
  | [] => Nat.le_refl _
  | (n, t) :: a => by
    have := showL_len a
    rw [showL]
    split <;> simp <;> omega
theorem showL_mem : ∀ (a : List (Bs × T)), ∀ x ∈ showL a, ∃ y ∈ a, y.1 = x.1
  | [], x, h => by cases h
  | (n, t) :: a, x, h => by
    rw [showL] at h
    split at h
    · obtain ⟨y, hy, e⟩ := showL_mem a x h
      exact ⟨y, List.mem_cons_of_mem _ hy, e⟩
    · rcases List.mem_cons.1 h with rfl | h
      · exact ⟨(n, t), List.mem_cons_self .., rfl⟩
      · obtain ⟨y, hy, e⟩ := showL_mem a x h
        exact ⟨y, List.mem_cons_of_mem _ hy, e⟩
def n0 (t : T) : Nat := if t.leaf = [] then 0 else 1
theorem sizeT_n0 : ∀ t : T, sizeT t = n0 t + sizeL t.kids
  | .mk _ _ => rfl
/-- The kids that are shown, of the first so many. -/
def shk (t : T) (k : Nat) : List Kid := (showL (t.kids.take k)).map fun x => (x.1, nsum (nodeT x.2))
theorem shk_succ (t : T) (k : Nat) (h : k < t.kids.length) : shk t (k + 1) = shk t k ++ if entries (showT (t.kids[k]).2) = [] then [] else [((t.kids[k]).1, nsum (nodeT (showT (t.kids[k]).2)))] := by
  unfold shk
  rw [List.take_succ_eq_append_getElem h, showL_append, List.map_append]
  congr 1
  rcases t.kids[k] with ⟨n, s⟩
  simp only [showL]
  split <;> rfl
theorem size_succ (t : T) (k : Nat) (h : k < t.kids.length) : sizeL (t.kids.take (k + 1)) = sizeL (t.kids.take k) + sizeT (t.kids[k]).2 := by
  rw [List.take_succ_eq_append_getElem h, sizeL_append]
  rcases t.kids[k] with ⟨n, s⟩
  simp [sizeL]
theorem sizeL_take (k : List (Bs × T)) (n : Nat) : sizeL (k.take n) ≤ sizeL k := by
  have := sizeL_append (k.take n) (k.drop n)
  rw [List.take_append_drop] at this
  omega
theorem size_kid : ∀ (k : List (Bs × T)), ∀ x ∈ k, sizeT x.2 ≤ sizeL k
  | [], x, h => by cases h
  | (n, t) :: r, x, h => by
    rw [sizeL]
    rcases List.mem_cons.1 h with rfl | h
    · show sizeT t ≤ _
      omega
    · have := size_kid r x h; omega
theorem show_node (t : T) : nodeT (showT t) = (live t.leaf, shk t t.kids.length) := by
  cases t with
  | mk l k =>
    unfold shk
    rw [showT, nodeT, kidsT_map]
    simp [T.leaf, T.kids]
theorem shown_dec (t : T) : (!decide (live t.leaf = [] ∧ shk t t.kids.length = [])) = decide (entries (showT t) ≠ []) := by
  cases t with
  | mk l k =>
    have h := shown_iff l k
    have e : (shk (.mk l k) (T.mk l k).kids.length = []) ↔ showL k = [] := by
      unfold shk
      simp [T.kids]
    simp only [T.leaf, e, h]
    by_cases h2 : entries (showT (.mk l k)) = [] <;> simp [h2]
end Sp
end Go.Proofs.YtedjiaenodechaaGreatDoor
