/- Walks: what stands by a name. Walks: what stands at a directory is made: its cells, plain. Walks: what stands at a directory is made. The document's trees: rising entries, their paths as texts: plain. -/
import Derived.Deep.DeepCutAuto
import Derived.Test.YtmlfnidckfeebaaGreatDoorQQ012
namespace Go.Proofs.YtmlfnidckfeebaaGreatDoor
open Go.RowKit Go.Shelf
attribute [local go_sem] yUpon
def OptAt (w : World) (v : Value) (o : Option Sp.T) : Prop := (o = none ∧ v = .pointer none) ∨ ∃ g t, o = some t ∧ v = .pointer (some ⟨g, 0, none⟩) ∧ InnerAt w g t
theorem OptAt.ext {w w' : World} (e : Ext w w') {v : Value} {o : Option Sp.T} (h : OptAt w v o) : OptAt w' v o := by
  rcases h with h | ⟨g, t, h1, h2, h3⟩
  · exact .inl h
  · exact .inr ⟨g, t, h1, h2, h3.ext e⟩
set_option maxRecDepth 100000 in
set_option maxHeartbeats 4000000 in
theorem ikid_pre (t : Sp.T) (g : Nat) (n : Sp.Bs) (w : World) (A B C : Option Addr) (c c' c'' : Nat) (gs : List Nat) (arr : Array Value) (hp : PreAt w g t A B C c c' c'' gs arr) (hr : Sp.Rise t.kids) (hk : t.kids.length ≤ 1000000) :
    Calls Tryz.prog 156 #[.pointer (some ⟨g, 0, none⟩), .string (strOf n)] w fun e w' => ∃ v, e = .returned v ∧ OptAt w' v (Sp.kid t.kids n) ∧ Ext w w' := by
  obtain ⟨p, hpp⟩ : ∃ p, p = Sp.pos (t.kids.map (·.1)) n := ⟨_, rfl⟩
  have hple : p ≤ (t.kids.map (·.1)).length := by rw [hpp]; exact Sp.pos_le _ _
  have hpl := Sp.pos_less (t.kids.map (fun x : Sp.Bs × Sp.T => x.1)) n hr
  have KP := Lib.hid (Sp.kid_pos t.kids n hr)
  rw [← hpp] at KP hpl
  have hlen : (t.kids.map (·.1)).length = t.kids.length := List.length_map ..
  have BC := Lib.hid (bin_calls (t.kids.map (·.1)) n p B c' w hp.N (by omega) hple hpl)
  rw [hlen] at BC hple
  obtain ⟨bb, hbb⟩ : ∃ bb : Bool, bb = decide ((t.kids.map (·.1))[p]? = some n) := ⟨_, rfl⟩
  rw [← hbb] at BC
  have HBB := Lib.hid hbb
  have HP := Lib.hid hp
  have f1 := (hp.blk.cell 1).trans hp.c1
  clear hpl hp hpp hr hbb
  go_enter Tryz.func156, Tryz.ntmps156
  go_wp2_with fail
  refine BC.out.mono ?_
  rintro e w1 ⟨rfl, hb⟩
  have HB := Lib.hid hb
  clear hb f1 BC
  by_cases hn : (t.kids.map (·.1))[p]? = some n
  · have hlt : p < t.kids.length := by have := (List.getElem?_eq_some_iff.1 hn).1; simpa using this
    obtain rfl : bb = true := by rw [HBB.out]; exact decide_eq_true hn
    have K2 := Lib.hid (show Sp.kid t.kids n = some (t.kids[p]).2 by rw [KP.out, if_pos hn, List.getElem?_eq_getElem hlt]; rfl)
    obtain ⟨cb, co, nb, no, rfl, rfl, pk, nk⟩ := HP.out.at p hlt
    have IK := Lib.hid (HP.out.K p hlt)
    obtain ⟨gk, hgk⟩ : ∃ gk, gk = gs.getD p 0 := ⟨_, rfl⟩
    rw [← hgk] at pk IK
    have f2 := ((HP.out.ext HB.out).blk.cell 2).trans HP.out.c2
    have p1 := HB.out.cell pk
    have b1 : (p : Int) < (t.kids.length : Int) := by omega
    clear hn nk pk hgk
    go_wp2
    go_ret
    exact ⟨_, rfl, .inr ⟨gk, _, K2.out, rfl, IK.out.ext HB.out⟩, HB.out⟩
  · obtain rfl : bb = false := by rw [HBB.out]; exact decide_eq_false hn
    have K2 := Lib.hid (show Sp.kid t.kids n = none by rw [KP.out, if_neg hn])
    clear hn
    go_wp2
    go_ret
    exact ⟨_, rfl, .inl ⟨K2.out, rfl⟩, HB.out⟩
theorem ikid_calls (t : Sp.T) (g : Nat) (n : Sp.Bs) (w : World) (h : InnerAt w g t) (hr : Sp.Rise t.kids) (hk : t.kids.length ≤ 1000000) :
    Calls Tryz.prog 156 #[.pointer (some ⟨g, 0, none⟩), .string (strOf n)] w fun e w' => ∃ v, e = .returned v ∧ OptAt w' v (Sp.kid t.kids n) ∧ Ext w w' := by
  obtain ⟨A, B, C, c, c', c'', gs, hp⟩ := h.pre
  exact ikid_pre t g n w A B C c c' c'' gs _ hp hr hk
end Go.Proofs.YtmlfnidckfeebaaGreatDoor
namespace Go.Proofs.YtmlfnidckfeebaaGreatDoor
open Go.RowKit Go.Shelf
theorem putsA_mid (X d e Y : List Value) (n : Nat) (hn : n = X.length) (h : e.length = d.length) : putsA (X ++ d ++ Y).toArray n e = (X ++ e ++ Y).toArray := by
  subst hn
  apply Array.ext_getElem?
  intro m
  rw [putsA_get _ _ _ _ (by simp; omega)]
  simp only [List.getElem?_toArray, List.getElem?_append, List.length_append]
  by_cases h1 : m < X.length
  · have a1 : m < X.length + d.length := by omega
    have a2 : m < X.length + e.length := by omega
    have a3 : ¬ (X.length ≤ m ∧ m < X.length + e.length) := by omega
    rw [if_neg a3]
    simp only [a1, a2, h1, if_true]
  · by_cases h2 : m < X.length + e.length
    · have a1 : m < X.length + d.length := by omega
      have a3 : X.length ≤ m ∧ m < X.length + e.length := by omega
      rw [if_pos a3]
      simp only [h1, h2, if_true, if_false]
    · have a1 : ¬ m < X.length + d.length := by omega
      have a3 : ¬ (X.length ≤ m ∧ m < X.length + e.length) := by omega
      rw [if_neg a3]
      simp only [a1, h, if_false]
def pcC (A : Option Addr) (la c : Nat) (B : Option Addr) (lk c' : Nat) (C : Option Addr) (c'' : Nat) (n : Value) (d1 d2 : List Value) (b : Value) : Array Value :=
  (([.slice A la c, .slice B lk c', .slice C lk c'', n] : List Value) ++ d1 ++ d2 ++ [b]).toArray
section
variable {A B C : Option Addr} {la c lk c' c'' : Nat} {n n' : Value} {d1 d2 e1 e2 : List Value} {b b' : Value}
theorem pc_size (h1 : d1.length = 32) (h2 : d2.length = 32) : (pcC A la c B lk c' C c'' n d1 d2 b).size = 69 := by simp [pcC, h1, h2]
theorem pc_get3 : (pcC A la c B lk c' C c'' n d1 d2 b)[3]? = some n := by simp [pcC]
theorem pc_get68 (h1 : d1.length = 32) (h2 : d2.length = 32) : (pcC A la c B lk c' C c'' n d1 d2 b)[68]? = some b := by
  simp only [pcC, List.getElem?_toArray]
  rw [List.getElem?_append_right (by simp [h1, h2])]
  simp [h1, h2]
theorem pc_set3 : (pcC A la c B lk c' C c'' n d1 d2 b).setIfInBounds 3 n' = pcC A la c B lk c' C c'' n' d1 d2 b := by simp [pcC]
theorem pc_puts4 (h : e1.length = d1.length) : putsA (pcC A la c B lk c' C c'' n d1 d2 b) 4 e1 = pcC A la c B lk c' C c'' n e1 d2 b := by
  have := putsA_mid [.slice A la c, .slice B lk c', .slice C lk c'', n] d1 e1 (d2 ++ [b]) 4 rfl h
  simpa only [pcC, List.append_assoc] using this
theorem pc_puts36 (h1 : d1.length = 32) (h : e2.length = d2.length) : putsA (pcC A la c B lk c' C c'' n d1 d2 b) 36 e2 = pcC A la c B lk c' C c'' n d1 e2 b := by
  have := putsA_mid ([.slice A la c, .slice B lk c', .slice C lk c'', n] ++ d1) d2 e2 [b] 36 (by simp [h1]) h
  simpa only [pcC, List.append_assoc] using this
theorem pc_set68 (h1 : d1.length = 32) (h2 : d2.length = 32) : (pcC A la c B lk c' C c'' n d1 d2 b).setIfInBounds 68 b' = pcC A la c B lk c' C c'' n d1 d2 b' := by
  have := putsA_mid ([.slice A la c, .slice B lk c', .slice C lk c'', n] ++ d1 ++ d2) [b] [b'] [] 68 (by simp [h1, h2]) rfl
  simpa only [pcC, List.append_nil, putsA] using this
end
theorem store_run {P : Program} {w : World} {g : Nat} {t : TypeId} {cs : Array Value} (h : isBlk w g t cs) (off : Nat) (D : Array Value) (hl : off + D.size ≤ cs.size) (h1 : D.all (·.oneCell') = true) :
    (storeCells ⟨g, off, none⟩ D.toList).run P w = .ok () (w.setCells g off D.toList) := by
  have := run_storeCells_cells (P := P) g off D.toList 0 w (fun j hj => by rw [h.cell, Array.getElem?_eq_getElem (by simp at hj; omega)]; rfl) (fun j _ => h.frozen _) (fun v hv => (Array.all_eq_true_iff_forall_mem.1 h1) v (by simpa using hv))
  simpa using this
theorem sets_pc {w : World} {g : Nat} {T : TypeId} {A B C : Option Addr} {la c lk c' c'' : Nat} {n : Value} {d1 d2 e2 : List Value} {b : Value} (h : isBlk w g T (pcC A la c B lk c' C c'' n d1 d2 b)) (h1 : d1.length = 32) (h2 : e2.length = d2.length) :
    isBlk (w.setCells g 36 e2) g T (pcC A la c B lk c' C c'' n d1 e2 b) := by
  have := isBlk.puts e2 36 h
  rwa [pc_puts36 h1 h2] at this
namespace Sp
theorem sizeL_append : ∀ (a b : List (Bs × T)), sizeL (a ++ b) = sizeL a + sizeL b
  | [], b => by simp [sizeL]
  | (n, t) :: a, b => by rw [List.cons_append, sizeL, sizeL, sizeL_append a b]; omega
theorem showL_append : ∀ (a b : List (Bs × T)), showL (a ++ b) = showL a ++ showL b
  | [], b => rfl
  | (n, t) :: a, b => by
    rw [List.cons_append, showL, showL, showL_append a b]
    split <;> rfl
theorem showL_len : ∀ (a : List (Bs × T)), (showL a).length ≤ a.length
  | [] => Nat.le_refl _
  | (n, t) :: a => by
    have := showL_len a
    rw [showL]
    split <;> simp <;> omega
theorem showL_mem : ∀ (a : List (Bs × T)), ∀ x ∈ showL a, ∃ y ∈ a, y.1 = x.1
  | [], x, h => by cases h
  | (n, t) :: a, x, h => by
    rw [showL] at h
    split at h
    · obtain ⟨y, hy, e⟩ := showL_mem a x h
      exact ⟨y, List.mem_cons_of_mem _ hy, e⟩
    · rcases List.mem_cons.1 h with rfl | h
      · exact ⟨(n, t), List.mem_cons_self .., rfl⟩
      · obtain ⟨y, hy, e⟩ := showL_mem a x h
        exact ⟨y, List.mem_cons_of_mem _ hy, e⟩
def n0 (t : T) : Nat := if t.leaf = [] then 0 else 1
theorem sizeT_n0 : ∀ t : T, sizeT t = n0 t + sizeL t.kids
  | .mk _ _ => rfl
def shk (t : T) (k : Nat) : List Kid := (showL (t.kids.take k)).map fun x => (x.1, nsum (nodeT x.2))
theorem shk_succ (t : T) (k : Nat) (h : k < t.kids.length) : shk t (k + 1) = shk t k ++ if entries (showT (t.kids[k]).2) = [] then [] else [((t.kids[k]).1, nsum (nodeT (showT (t.kids[k]).2)))] := by
  unfold shk
  rw [List.take_succ_eq_append_getElem h, showL_append, List.map_append]
  congr 1
  rcases t.kids[k] with ⟨n, s⟩
  simp only [showL]
  split <;> rfl
theorem size_succ (t : T) (k : Nat) (h : k < t.kids.length) : sizeL (t.kids.take (k + 1)) = sizeL (t.kids.take k) + sizeT (t.kids[k]).2 := by
  rw [List.take_succ_eq_append_getElem h, sizeL_append]
  rcases t.kids[k] with ⟨n, s⟩
  simp [sizeL]
theorem sizeL_take (k : List (Bs × T)) (n : Nat) : sizeL (k.take n) ≤ sizeL k := by
  have := sizeL_append (k.take n) (k.drop n)
  rw [List.take_append_drop] at this
  omega
theorem size_kid : ∀ (k : List (Bs × T)), ∀ x ∈ k, sizeT x.2 ≤ sizeL k
  | [], x, h => by cases h
  | (n, t) :: r, x, h => by
    rw [sizeL]
    rcases List.mem_cons.1 h with rfl | h
    · show sizeT t ≤ _
      omega
    · have := size_kid r x h; omega
theorem show_node (t : T) : nodeT (showT t) = (live t.leaf, shk t t.kids.length) := by
  cases t with
  | mk l k =>
    unfold shk
    rw [showT, nodeT, kidsT_map]
    simp [T.leaf, T.kids]
theorem shown_dec (t : T) : (!decide (live t.leaf = [] ∧ shk t t.kids.length = [])) = decide (entries (showT t) ≠ []) := by
  cases t with
  | mk l k =>
    have h := shown_iff l k
    have e : (shk (.mk l k) (T.mk l k).kids.length = []) ↔ showL k = [] := by
      unfold shk
      simp [T.kids]
    simp only [T.leaf, e, h]
    by_cases h2 : entries (showT (.mk l k)) = [] <;> simp [h2]
end Sp
end Go.Proofs.YtmlfnidckfeebaaGreatDoor
namespace Go.Proofs.YtmlfnidckfeebaaGreatDoor
open Go.RowKit Go.Shelf
attribute [local go_sem] yUpon
set_option maxRecDepth 100000 in
set_option maxHeartbeats 4000000 in
theorem made_calls (t : Sp.T) (A B C : Option Addr) (c c' c'' : Nat) (gs : List Nat) (w : World) (hV : Vers w A t.leaf) (hN : Nams w B (t.kids.map (·.1))) (hL : gs.length = t.kids.length) (hP : Cells w C (ptrsC gs)) (hK : ∀ i (h : i < t.kids.length), InnerAt w (gs.getD i 0) (t.kids[i]).2)
    (hl : t.leaf.length ≤ 1000000) (hp : ∀ v ∈ t.leaf, v.past.length ≤ 1000000) (hk : t.kids.length ≤ 1000000) (hn : ∀ x ∈ t.kids, x.1.length ≤ 1000000) (hs : Sp.sizeT t ≤ 1000000000) (K : KeysAt w 2) :
    Calls Tryz.prog 146 #[.slice A t.leaf.length c, .slice B t.kids.length c', .slice C t.kids.length c''] w fun e w' => ∃ g, e = .returned (.pointer (some ⟨g, 0, none⟩)) ∧ InnerAt w' g t ∧ Ext w w' := by
  have HV := Lib.hid hV
  have HN := Lib.hid hN
  have HL := Lib.hid hL
  have HP := Lib.hid hP
  have HK := Lib.hid hK
  have HPV := Lib.hid hp
  have HNL := Lib.hid hn
  have KK := Lib.hid K
  have HS := Lib.hid hs
  obtain ⟨Z, hZ⟩ : ∃ Z : List Value, Z = List.replicate 32 (.int .u8 0) := ⟨_, rfl⟩
  have ZZ := Lib.hid hZ
  have ZL := Lib.hid (show Z.length = 32 by rw [hZ]; rfl)
  have NW : ∀ G W, Ext w W → ∀ v, isBlk W G 122 (pcC A t.leaf.length c B t.kids.length c' C c'' v Z Z (.bool false)) → PreAt W G t A B C c c' c'' gs (pcC A t.leaf.length c B t.kids.length c' C c'' v Z Z (.bool false)) :=
    fun G W e v hx => ⟨hx, pc_size ZL.out ZL.out, rfl, rfl, rfl, hV.ext e, hN.ext e, hL, hP.ext e, fun i hi => (hK i hi).ext e⟩
  have PRE := Lib.hid NW
  clear hV hN hL hP hK hp hn K hs hZ NW
  have tok1 : True := trivial
  have N0 : ∃ n : Nat, n = Sp.n0 t := ⟨_, rfl⟩
  obtain ⟨n, hn0⟩ := N0
  have HN0 := Lib.hid hn0
  clear hn0
  go_enter Tryz.func146, Tryz.ntmps146
  obtain ⟨bl, hbl⟩ : ∃ bl : Bool, decide (0 < t.leaf.length) = bl := ⟨_, rfl⟩
  go_upto_if 19 with (first
      | (have _t := tok1; ((with_reducible refine at_box (t := 122) rfl ?_); refine box_new rfl (cs := pcC A t.leaf.length c B t.kids.length c' C c'' (.int .i64 0) Z Z (.bool false)) (t := 122) (by rw [ZZ.out]; first | (go_simp; done) | (go_simp; rfl)) ?_; intro g2 w2 hg2 hx2 hb2; have H2 := Lib.hid hx2; have B2 := Lib.hid (show Ext w w2 from hb2); have GG2 := Lib.hid hg2; have f3 := (hx2.cell 3).trans pc_get3; have f4 := hx2.frozen 3; clear tok1 _t hx2 hb2 hg2)))
  go_cut [19] (fun _ wx => isBlk wx g2 122 (pcC A t.leaf.length c B t.kids.length c' C c'' (.int .i64 n) Z Z (.bool false)) ∧ Ext w wx)
  case first =>
    cases bl with
    | true =>
      have hn1 := Lib.hid (show n = 1 by
        rw [HN0.out]
        have : 0 < t.leaf.length := of_decide_eq_true hbl
        exact if_neg (fun h => by rw [h] at this; cases this))
      clear hbl
      go_wp2
      go_meet
      case rel => exact ⟨by rw [hn1.out]; exact H2.out.put 3 _ pc_set3, B2.out.setCell GG2.out _⟩
    | false =>
      have hn1 := Lib.hid (show n = 0 by
        rw [HN0.out]
        have : ¬ 0 < t.leaf.length := of_decide_eq_false hbl
        exact if_pos (List.eq_nil_of_length_eq_zero (by omega)))
      clear hbl
      go_wp2
      go_meet
      case rel => exact ⟨by rw [hn1.out]; exact H2.out, B2.out⟩
  case rest =>
    obtain ⟨hX5, hB5⟩ := hcut
    obtain ⟨w5, hw5⟩ : ∃ w5, w5 = wc := ⟨_, rfl⟩
    rw [← hw5] at hX5 hB5 ⊢
    have X5 := Lib.hid hX5
    have B5 := Lib.hid hB5
    clear hX5 hB5 hw5 hbl f3 f4
    go_wp2_with fail
    go_loopw [25, 8] (fun v25 v8 wr => ∃ (k m : Nat) (v : Value), k ≤ t.kids.length ∧ v25 = .int .i64 k ∧ v = v8 ∧ m = n + Sp.sizeL (t.kids.take k) ∧ isBlk wr g2 122 (pcC A t.leaf.length c B t.kids.length c' C c'' (.int .i64 m) Z Z (.bool false)) ∧ wr.ownsRow (g2 + 1) 268 33 v (Sp.shk t k).length (kidsC (Sp.shk t k)) ∧ Ext w wr ∧ g2 < wr.heap.size) (fun v25 _ _ => t.kids.length - (intOf v25).toNat)
    case atStart => exact ⟨0, n, _, Nat.zero_le _, rfl, rfl, rfl, X5.out, World.ownsRow_nil _ _ _ _, B5.out, X5.out.lt⟩
    case round =>
      obtain ⟨k, m, v, hk2, rfl, rfl, hm, hx, ho, hb, hgw⟩ := hrel
      have HX := Lib.hid hx
      have HO := Lib.hid ho
      have HB := Lib.hid hb
      have GW := Lib.hid hgw
      have HM := Lib.hid hm
      clear hx ho hb hgw hm
      by_cases hlt : k < t.kids.length
      · obtain ⟨cb, co, rfl, hc⟩ := ptrs_at HP.out k (by rw [HL.out]; exact hlt)
        obtain ⟨nb, no, rfl, hnm⟩ := HN.out.at (by simp; omega)
        have pk := hc k (by rw [HL.out]; exact hlt)
        have nk := hnm k (by simpa using hlt)
        rw [List.getElem_map] at nk
        obtain ⟨iz, _, is, ib⟩ := (HK.out k hlt).cells
        have SK1 := Lib.hid (Sp.shk_succ t k hlt)
        have SZ1 := Lib.hid (Sp.size_succ t k hlt)
        have SZ2 := Lib.hid (Sp.size_kid t.kids t.kids[k] (List.getElem_mem hlt))
        have NL := Lib.hid (HNL.out t.kids[k] (List.getElem_mem hlt))
        obtain ⟨x, hxk⟩ : ∃ x, x = t.kids[k] := ⟨_, rfl⟩
        obtain ⟨gk, hgk⟩ : ∃ gk, gk = gs.getD k 0 := ⟨_, rfl⟩
        rw [← hxk] at nk iz is ib SK1 SZ1 SZ2 NL
        rw [← hgk] at pk iz is ib
        obtain ⟨bb, hbb⟩ : ∃ bb : Bool, bb = decide (Sp.entries (Sp.showT x.2) ≠ []) := ⟨_, rfl⟩
        rw [← hbb] at ib
        obtain ⟨sz, hsz⟩ : ∃ sz, sz = Sp.sizeT x.2 := ⟨_, rfl⟩
        rw [← hsz] at iz SZ1 SZ2
        obtain ⟨m2, hm2⟩ : ∃ m2, m2 = m + sz := ⟨_, rfl⟩
        have hmb : m2 ≤ 3000000000 := by
          have h1 := HM.out
          have h2 := Sp.sizeL_take t.kids k
          have h3 := Sp.sizeT_n0 t
          have h4 := HS.out
          have h5 := HN0.out
          have h6 := SZ2.out
          omega
        have w1 : IntKind.i64.wrap ((m : Int) + (sz : Int)) = (m2 : Int) := by rw [IntKind.wrap_i64]; omega
        have E := Lib.hid HB.out
        have p1 := HB.out.cell pk
        have z1 := HB.out.cell iz
        have z2 := HB.out.cell ib
        have f3 := (HX.out.cell 3).trans pc_get3
        have f4 := HX.out.frozen 3
        have NK := Lib.hid nk
        have IS := Lib.hid is
        have HBB := Lib.hid hbb
        have HM2 := Lib.hid hm2
        have b1 : (k : Int) < (t.kids.length : Int) := by omega
        clear hc hnm pk nk iz is ib hxk hgk hbb hsz hm2 hmb
        go_wp2_with fail
        refine wp_region_det_tail (fun W => W = wr.drew) 11 (by kernel_rfl) (by kernel_rfl) rfl ?_
        simp only [List.take_succ_cons, List.take_zero, List.drop_succ_cons, List.drop_zero]
        repeat (first
          | (refine det_step (fun K hK => ?_)
             apply Exists.intro
             refine ⟨Or.inl ⟨rfl, fun W hS => ?_⟩, ?_⟩
             · have hz : W = wr.drew := hS; subst hz
               go_simp
               first
               | exact rfl
               | exact ⟨rfl, hS⟩
               | (fail)
             go_simp
             refine hK _ ?_
             clear hK K)
          | (refine det_step (fun K hK => ?_); refine det_no' rfl ?_; go_simp; refine hK _ ?_; clear hK K))
        refine det_nil ?_
        rintro W rfl
        have hX6 := Lib.hid (show isBlk (wr.setCell ⟨g2, 3, none⟩ (.int .i64 m2)).drew g2 122 (pcC A t.leaf.length c (some ⟨nb, no, none⟩) t.kids.length c' (some ⟨cb, co, none⟩) c'' (.int .i64 m2) Z Z (.bool false)) from (HX.out.put 3 _ pc_set3).drew)
        have hB6 := Lib.hid (show Ext w (wr.setCell ⟨g2, 3, none⟩ (.int .i64 m2)).drew from (HB.out.setCell GG2.out _).drew)
        have hO6 := Lib.hid (show (wr.setCell ⟨g2, 3, none⟩ (.int .i64 m2)).drew.ownsRow (g2 + 1) 268 33 v (Sp.shk t k).length (kidsC (Sp.shk t k)) from owned_drew (own_far HO.out (fun e => by have := (HO.out.lt _ e).1; omega) _))
        have hG6 := Lib.hid (show g2 < (wr.setCell ⟨g2, 3, none⟩ (.int .i64 m2)).drew.heap.size from hX6.out.lt)
        cases bb with
        | false =>
          have hsk : Sp.shk t (k + 1) = Sp.shk t k := by
            rw [SK1.out, if_pos (by have := HBB.out; simpa using this.symm), List.append_nil]
          go_wp2_with fail
          go_roundw
          case rel => exact ⟨k + 1, m2, v, by omega, by go_num, rfl, by have := SZ1.out; have := HM.out; have := HM2.out; omega, hX6.out, by rw [hsk]; exact hO6.out, hB6.out, hG6.out⟩
          case measure => simp [intOf]; omega
        | true =>
          have hsk : Sp.shk t (k + 1) = Sp.shk t k ++ [(x.1, Sp.nsum (Sp.nodeT (Sp.showT x.2)))] := by
            rw [SK1.out, if_neg (by have := HBB.out; simpa using this)]
          have HSK := Lib.hid hsk
          clear hsk
          go_wp2_with fail
          obtain ⟨w6, hw6⟩ : ∃ w6, w6 = (wr.setCell ⟨g2, 3, none⟩ (.int .i64 m2)).drew := ⟨_, rfl⟩
          rw [← hw6] at hX6 hB6 hO6 hG6 ⊢
          clear hw6 p1 z1 z2 f3 f4
          have n1 := hB6.out.cell NK.out
          have N1 := Lib.hid n1
          obtain ⟨ds, hds⟩ : ∃ ds, ds = (Sp.nsum (Sp.nodeT (Sp.showT x.2))).map byteV := ⟨_, rfl⟩
          have is := IS.out
          rw [← hds] at is
          have SKR := Lib.hid (show w6.drew.rangeAt gk 36 ds from fun j v hj => hB6.out.cell (is j v hj))
          have DL := Lib.hid (show ds.length = 32 by rw [hds, List.length_map, Sp.nsum_len])
          obtain ⟨ka, hka⟩ : ∃ ka, ka = (kidL (x.1, Sp.nsum (Sp.nodeT (Sp.showT x.2)))).toArray := ⟨_, rfl⟩
          have BK := Lib.hid (show (Tryz.prog).built 268 [(0, .string (strOf x.1)), (1, .agg ds.toArray)] = some ka by rw [hka, hds]; exact built_kid (x.1, Sp.nsum (Sp.nodeT (Sp.showT x.2))) (Sp.nsum_len _))
          have KA := Lib.hid hka
          have KS := Lib.hid (show ka.size = 1 * 33 by rw [hka, List.size_toArray, kidL_len _ (Sp.nsum_len _)])
          have KO := Lib.hid (show ∀ u ∈ ka.toList, u.oneCell' = true by
            rw [hka]
            intro u hu
            have : u ∈ kidsC [(x.1, Sp.nsum (Sp.nodeT (Sp.showT x.2)))] := by simpa [kidsC] using hu
            exact kids_one _ u this)
          have SL := Lib.hid (show (Sp.shk t k).length ≤ 1000000 by unfold Sp.shk; rw [List.length_map]; have := Sp.showL_len (t.kids.take k); rw [List.length_take] at this; omega)
          obtain ⟨sl, hsl⟩ : ∃ sl, sl = (Sp.shk t k).length := ⟨_, rfl⟩
          rw [← hsl] at hO6 SL
          have HSL := Lib.hid hsl
          have G6 := hG6
          clear hds hka is hsl
          refine wp_region_det_preT (fun W => W = w6.drew) (fun W => Ext w6 W) 1 10 (fun W e => by rw [e]; exact (Ext.refl _).drew) (by kernel_rfl) (by kernel_rfl) rfl ?_
          simp only [List.take_succ_cons, List.take_zero, List.drop_succ_cons, List.drop_zero]
          repeat (first
            | (refine floatT_step (fun K hK => ?_)
               apply Exists.intro
               refine ⟨Or.inl ⟨rfl, fun W hS => ?_⟩, ?_⟩
               · skip
                 go_simp
                 first | done | exact rfl
               go_simp
               refine hK _ ?_
               clear hK K))
          refine floatT_nil ?_
          repeat (first
            | (refine det_step (fun K hK => ?_); (first | (refine det_load_mid rfl 36 (.tmp 52) rfl gk 36 rfl ds _ (fun W hS => by rw [show W = w6.drew from hS]; exact SKR.out) Tryz.underlying36 rfl (by rw [DL.out]; kernel_rfl) ?_) | (refine det_build rfl 268 #[(0, .tmp 49), (1, .tmp 53)] rfl ka (by first | exact BK.out | (go_simp; exact BK.out)) ?_)); go_simp; refine hK _ ?_; clear hK K)
            | (refine det_step (fun K hK => ?_)
               apply Exists.intro
               refine ⟨Or.inl ⟨rfl, fun W hS => ?_⟩, ?_⟩
               · have hz : W = w6.drew := hS; subst hz; have n1 := (show w6.drew.cell? _ = _ from N1.out)
                 go_simp
                 first
                 | exact rfl
                 | exact ⟨rfl, hS⟩
                 | (fail)
               go_simp
               refine hK _ ?_
               clear hK K)
            | (refine det_step (fun K hK => ?_); refine det_no' rfl ?_; go_simp; refine hK _ ?_; clear hK K))
          refine det_nil ?_
          rintro W rfl
          have tokS : True := trivial
          have tokA : True := trivial
          go_wp2_with (have _t := tokS; (with_reducible refine at_bslice rfl ?_); refine bslice_one rfl 114 268 _ rfl appKid (by decide) ka rfl KS.out ?_; clear tokS _t)
          refine ⟨rfl, (Below.refl _ _).drew.alloc (Nat.le_refl _) _, ?_⟩
          go_wp2_with (have _t := tokA; at_builtin; refine app_new appKid rfl _ _ rfl (g2 + 1) v sl _ rfl (owned_drew hO6.out) ka 268 1 rfl KS.out KO.out (by decide) (by have := SL.out; omega) G6.out ?_; intro g7 cap7 w7 hown7 hgr7 hb7 hbg7; have HO7 := Lib.hid hown7; have HB7 := Lib.hid hb7; have GB7 := Lib.hid hbg7; clear hown7 hgr7 hb7 hbg7 tokA _t)
          refine ⟨rfl, ?_⟩
          go_wp2
          have e1 : kidsC (Sp.shk t (k + 1)) = kidsC (Sp.shk t k) ++ ka.toList := by rw [HSK.out, kidsC_snoc, KA.out]
          have e2 : (Sp.shk t (k + 1)).length = sl + 1 := by rw [HSK.out, List.length_append, HSL.out]; rfl
          have hw6 : Below (g2 + 1) w6 w7 := Below.trans (Below.refl _ _).drew HB7.out
          go_roundw
          case rel => exact ⟨k + 1, m2, _, by omega, by go_num, rfl, by have := SZ1.out; have := HM.out; have := HM2.out; omega, (hw6.block g2 (Nat.lt_succ_self _)).trans hX6.out, by rw [e1, e2]; exact HO7.out, hB6.out.from' (below_lower hw6 (Nat.le_succ_of_le GG2.out)), Nat.lt_of_lt_of_le G6.out hw6.size⟩
          case measure => simp [intOf]; omega
      · obtain rfl : k = t.kids.length := by omega
        obtain ⟨Bk, ck, rfl, hKc⟩ := own_read HO.out
        have hmT : m = Sp.sizeT t := by
          have h1 := HM.out
          rw [List.take_length] at h1
          rw [h1, HN0.out, Sp.sizeT_n0]
        have nlen : (Sp.nodeT t).2.length = t.kids.length := by rw [nodeT_kids, List.length_map]
        have IN := Lib.hid (inode_calls t g2 A B C c c' c'' gs _ wr (PRE.out g2 wr HB.out _ HX.out) hl HPV.out hk HNL.out)
        have NS := Lib.hid fun (A2 : Option Addr) (c2 : Nat) (B2 : Option Addr) (c3 : Nat) (W : World) (hv : Vers W A2 t.leaf) (hkk : Kids W B2 (Sp.nodeT t).2) (e : Ext w W) => (show Calls Tryz.prog 219 #[nodeV A2 t.leaf.length c2 B2 t.kids.length c3] W fun e w' => e = .returned (digV (Sp.nsum (Sp.nodeT t))) ∧ Ext W w' from by
          have := nsum_calls (Sp.nodeT t) A2 B2 c2 c3 W (by rw [nodeT_leaf]; exact hv) hkk (KK.out.ext e)
          rwa [nodeT_leaf, nlen] at this)
        have OFF := Lib.hid (own_off HO.out)
        have KS := Lib.hid (show ∀ W W', Ext wr W → Only g2 W W' → Kids W' Bk (Sp.shk t t.kids.length) from fun W W' e on => ⟨(hKc.ext e).only (fun a ha => by have := OFF.out a ha; omega) on, fun y hy => by
          unfold Sp.shk at hy
          obtain ⟨z, hz, rfl⟩ := List.mem_map.1 hy
          rw [List.take_length] at hz
          obtain ⟨u, hu, e2⟩ := Sp.showL_mem _ z hz
          exact ⟨Sp.nsum_len _, by have := HNL.out u hu; rw [e2] at this; exact this⟩⟩)
        have SLN := Lib.hid (show (Sp.shk t t.kids.length).length ≤ 1000000 by unfold Sp.shk; rw [List.length_map, List.take_length]; have := Sp.showL_len t.kids; omega)
        have SN := Lib.hid fun W (hv : Vers W A t.leaf) (hkk : Kids W Bk (Sp.shk t t.kids.length)) => (show Calls Tryz.prog 221 #[.agg #[.slice A t.leaf.length c, .slice Bk (Sp.shk t t.kids.length).length ck]] W fun e w' => ∃ A2 c2 B2 c3, e = .returned (.agg #[.slice A2 (Sp.live t.leaf).length c2, .slice B2 (Sp.shk t t.kids.length).length c3]) ∧ Vers w' A2 (Sp.live t.leaf) ∧ Kids w' B2 (Sp.shk t t.kids.length) ∧ Ext W w' from nseen_calls (t.leaf, Sp.shk t t.kids.length) A Bk c ck W hv hkk hl (Nat.le_trans SLN.out (by decide)))
        obtain ⟨D1, hD1⟩ : ∃ D1, D1 = digC (Sp.nsum (Sp.nodeT t)) := ⟨_, rfl⟩
        have DS1 := Lib.hid (show D1.size = 32 by rw [hD1, digC_size, Sp.nsum_len])
        have DO1 := Lib.hid (show D1.all (·.oneCell') = true by rw [hD1]; exact all_oneCell_toArray (bytes_one _))
        have HD1 := Lib.hid hD1
        obtain ⟨D2, hD2⟩ : ∃ D2, D2 = digC (Sp.nsum (Sp.nodeT (Sp.showT t))) := ⟨_, rfl⟩
        have DS2 := Lib.hid (show D2.size = 32 by rw [hD2, digC_size, Sp.nsum_len])
        have DO2 := Lib.hid (show D2.all (·.oneCell') = true by rw [hD2]; exact all_oneCell_toArray (bytes_one _))
        have HD2 := Lib.hid hD2
        have tokD : True := trivial
        have HMT := Lib.hid hmT
        have tokE : True := trivial
        have tokF : True := trivial
        clear hD1 hD2 hmT hKc
        go_wp2_with fail
        refine IN.out.mono ?_
        rintro e w1 ⟨A2, c2, B2, c3, rfl, hv1, hk1, hb1⟩
        have B1 := Lib.hid (show Ext wr w1 from hb1)
        have NS1 := Lib.hid (NS.out A2 c2 B2 c3 w1 hv1 hk1 (HB.out.trans hb1))
        clear hv1 hk1 hb1
        go_wp2_with fail
        refine NS1.out.mono ?_
        rintro e w3 ⟨rfl, hb3⟩
        have B3 := Lib.hid (show Ext wr w3 from B1.out.trans hb3)
        have X3 := Lib.hid (HX.out.below B3.out)
        rw [show digV (Sp.nsum (Sp.nodeT t)) = .agg (digC (Sp.nsum (Sp.nodeT t))) from rfl, ← HD1.out]
        clear hb3
        go_wp2_with (have _t := tokD; ((with_reducible refine at_store (t := 36) rfl ?_); refine store_blk rfl _ _ _ rfl g2 4 D1 rfl rfl X3.out (by rw [pc_size ZL.out ZL.out, DS1.out]; decide) (by rw [DS1.out]; kernel_rfl) DO1.out (pc_puts4 (by rw [Array.length_toList, DS1.out, ZL.out])) ?_; intro w4 hx4 on4 hs4; have X4 := Lib.hid hx4; have O4 := Lib.hid on4; have S4 := Lib.hid hs4; clear hx4 on4 hs4 tokD _t))
        have E4 := Lib.hid (show Ext w w4 from (HB.out.trans B3.out).from' (O4.out.below GG2.out (HB.out.trans B3.out).size))
        refine (SN.out w4 (HV.out.ext E4.out) (KS.out w3 w4 B3.out O4.out)).mono ?_
        rintro e w5 ⟨A5, c5, B5, c6, rfl, hv5, hk5, hb5⟩
        have BB5 := Lib.hid (show Ext w4 w5 from hb5)
        have V5 := Lib.hid hv5
        have K5 := Lib.hid hk5
        clear hv5 hk5 hb5
        go_wp2_with (have _t := tokE; ((with_reducible refine at_alloc (t := 116) rfl ?_); refine box_new rfl (cs := #[.slice none 0 0, .slice none 0 0]) (t := 116) (by first | (go_simp; done) | (go_simp; rfl)) ?_; intro g6 w6 hg6 hx6 hb6; have H6 := Lib.hid hx6; have B6 := Lib.hid (show Ext w5 w6 from hb6); have GG6 := Lib.hid hg6; have k0 := (hx6.cell 0).trans rfl; have k1 := (hx6.cell 1).trans rfl; have k2 := hx6.frozen 0; have k3 := hx6.frozen 1; clear tokE _t hx6 hb6 hg6))
        obtain ⟨w7, hw7⟩ : ∃ w7, w7 = (w6.setCell ⟨g6, 0, none⟩ (.slice A5 (Sp.live t.leaf).length c5)).setCell ⟨g6, 1, none⟩ (.slice B5 (Sp.shk t t.kids.length).length c6) := ⟨_, rfl⟩
        have X7 := Lib.hid (show isBlk w7 g6 116 #[.slice A5 (Sp.live t.leaf).length c5, .slice B5 (Sp.shk t t.kids.length).length c6] by rw [hw7]; exact (H6.out.put 0 _ rfl).put 1 _ rfl)
        have B7 := Lib.hid (show Ext w5 w7 by rw [hw7]; exact (B6.out.setCell GG6.out _).setCell GG6.out _)
        rw [← hw7]
        clear hw7 k0 k1 k2 k3
        have E7 := Lib.hid (show Ext w w7 from E4.out.trans (BB5.out.trans B7.out))
        have XX7 := Lib.hid (X4.out.below (BB5.out.trans B7.out))
        have NS2 := Lib.hid fun (W : World) (e : Ext w7 W) => (show Calls Tryz.prog 219 #[nodeV A5 (Sp.live t.leaf).length c5 B5 (Sp.shk t t.kids.length).length c6] W fun e w' => e = .returned (.agg D2) ∧ Ext W w' from by
          refine (nsum_calls (Sp.live t.leaf, Sp.shk t t.kids.length) A5 B5 c5 c6 W (V5.out.ext (B7.out.trans e)) (K5.out.ext (B7.out.trans e)) (KK.out.ext (E7.out.trans e))).mono ?_
          rintro e w' ⟨rfl, h⟩
          exact ⟨by rw [HD2.out, Sp.show_node], h⟩)
        have NE := Lib.hid fun (W : World) => nempty_calls (Sp.live t.leaf, Sp.shk t t.kids.length) A5 B5 c5 c6 W
        obtain ⟨bb, hbb⟩ : ∃ bb : Bool, bb = decide ((Sp.live t.leaf, Sp.shk t t.kids.length).1 = [] ∧ (Sp.live t.leaf, Sp.shk t t.kids.length).2 = []) := ⟨_, rfl⟩
        rw [← hbb] at NE
        have HBB := Lib.hid (show (!bb) = decide (Sp.entries (Sp.showT t) ≠ []) by rw [hbb]; exact Sp.shown_dec t)
        clear hbb
        have z7 := X7.out
        have f0 := (z7.cell 0).trans rfl
        have f1 := (z7.cell 1).trans rfl
        have tokL : True := trivial
        have tokM : True := trivial
        go_region_law (first
          | (have _tL := tokL; refine step_call rfl 219 #[nodeV A5 (Sp.live t.leaf).length c5 B5 (Sp.shk t t.kids.length).length c6] (by go_simp) (NS2.out w7.drew (Ext.refl _).drew) ?_; rintro e w8 ⟨rfl, hb8⟩; have B8 := Lib.hid (show Ext w7 w8 from Below.trans (Below.refl _ _).drew hb8); have z8 := X7.out.below B8.out; have f0 := (z8.cell 0).trans rfl; have f1 := (z8.cell 1).trans rfl; clear hb8 tokL _tL z8; refine ⟨_, rfl, ?_⟩)
          | (have _tM := tokM; refine step_call rfl 222 #[nodeV A5 (Sp.live t.leaf).length c5 B5 (Sp.shk t t.kids.length).length c6] (by go_simp) (NE.out w8) ?_; rintro e w9 ⟨rfl, hb9⟩; have B9 := Lib.hid (show Ext w7 w9 from B8.out.trans hb9); have X9 := Lib.hid (XX7.out.below B9.out); have d2s := DS2.out; have hst := store_run (P := Tryz.prog) X9.out 36 D2 (by rw [pc_size (by rw [Array.length_toList, DS1.out]) ZL.out, DS2.out]; decide) DO2.out; have Y9 := Lib.hid (sets_pc (e2 := D2.toList) X9.out (by rw [Array.length_toList, DS1.out]) (by rw [Array.length_toList, DS2.out, ZL.out])); have c68 := (Y9.out.cell 68).trans (pc_get68 (by rw [Array.length_toList, DS1.out]) (by rw [Array.length_toList, DS2.out])); have k68 := Y9.out.frozen 68; clear hb9 tokM _tM; refine ⟨_, rfl, ?_⟩))
        all_goals (
          go_wp2
          go_ret
          have Y10 := Y9.out.put 68 (.bool !bb) (pc_set68 (by rw [Array.length_toList, DS1.out]) (by rw [Array.length_toList, DS2.out]))
          have E9 : Ext w (w9.setCells g2 36 D2.toList) := (E7.out.trans B9.out).from' ((Only.sets g2 _ _ _).below GG2.out (E7.out.trans B9.out).size)
          have E10 : Ext w ((w9.setCells g2 36 D2.toList).setCell ⟨g2, 68, none⟩ (.bool !bb)) := E9.setCell GG2.out _
          have e : pcC A t.leaf.length c B t.kids.length c' C c'' (.int .i64 m) D1.toList D2.toList (.bool !bb) = innerC A c B c' C c'' t := by
            rw [HMT.out, HD1.out, HD2.out, HBB.out]
            rfl
          rw [e] at Y10
          exact ⟨g2, rfl, .mk g2 t A B C c c' c'' gs Y10 (HV.out.ext E10) (HN.out.ext E10) HL.out (HP.out.ext E10) (fun i hi => (HK.out i hi).ext E10), E10⟩)
end Go.Proofs.YtmlfnidckfeebaaGreatDoor
namespace Go.Proofs.YtmlfnidckfeebaaGreatDoor
open Go.RowKit
namespace Sp
abbrev DE := Bs × List Ver
def toP (m : List DE) : List PE := m.map fun e => (split e.1, e.2)
def joinP : List Bs → Bs
  | [] => []
  | [a] => a
  | a :: b :: r => a ++ 47 :: joinP (b :: r)
theorem join_split : ∀ s, joinP (split s) = s
  | [] => rfl
  | c :: r => by
    have ih := join_split r
    unfold split
    split
    · rename_i h
      cases hs : split r with
      | nil => exact absurd hs (split_ne r)
      | cons a t => rw [hs] at ih; rw [joinP, ih, h]; rfl
    · cases hs : split r with
      | nil => exact absurd hs (split_ne r)
      | cons a t =>
        rw [hs] at ih
        cases t with
        | nil => simpa [joinP] using ih
        | cons b t => simpa [joinP] using ih
theorem split_inj {a b : Bs} (h : split a = split b) : a = b := by rw [← join_split a, h, join_split]
theorem cmpP_trans : ∀ (a b c : List Bs), cmpP a b = -1 → cmpP b c = -1 → cmpP a c = -1
  | [], [], _, h, _ => by simp [cmpP] at h
  | [], _ :: _, [], _, h => by simp [cmpP] at h
  | [], _ :: _, _ :: _, _, _ => rfl
  | _ :: _, [], _, h, _ => by simp [cmpP] at h
  | _ :: _, _ :: _, [], _, h => by simp [cmpP] at h
  | x :: a, y :: b, z :: c, h, k => by
    unfold cmpP at h k ⊢
    by_cases h1 : x = y
    · subst h1
      rw [if_pos rfl] at h
      by_cases h2 : x = z
      · rw [if_pos h2] at k ⊢
        exact cmpP_trans a b c h k
      · rw [if_neg h2] at k ⊢
        exact k
    · rw [if_neg h1] at h
      have g1 := (less_cmp x y).2 h
      by_cases h2 : y = z
      · subst h2
        rw [if_neg h1]
        exact h
      · rw [if_neg h2] at k
        have g2 := less_trans g1 ((less_cmp y z).2 k)
        have h3 : x ≠ z := by rintro rfl; rw [less_irr] at g2; cases g2
        rw [if_neg h3]
        exact (less_cmp x z).1 g2
theorem cmpP_self : ∀ a : List Bs, cmpP a a = 0
  | [] => rfl
  | x :: a => by rw [cmpP, if_pos rfl, cmpP_self a]
theorem cmpP_zero : ∀ {a b : List Bs}, cmpP a b = 0 → a = b
  | [], [], _ => rfl
  | [], _ :: _, h => by simp [cmpP] at h
  | _ :: _, [], h => by simp [cmpP] at h
  | x :: a, y :: b, h => by
    unfold cmpP at h
    by_cases h1 : x = y
    · rw [if_pos h1] at h; rw [h1, cmpP_zero h]
    · rw [if_neg h1] at h; exact absurd ((cmpB_eq x y).1 h) h1
def rgo (p : Bs) (l : List Ver) : Bool → List DE → List DE
  | put, [] => if put then [] else [(p, l)]
  | put, e :: r => (if put = false ∧ compare p e.1 ≤ 0 then [(p, l)] else []) ++ ((if e.1 = p then [] else [e]) ++ rgo p l (put || decide (compare p e.1 ≤ 0)) r)
def rset (m : List DE) (p : Bs) (l : List Ver) : List DE := rgo p l (decide (l = [])) m
def RiseE (E : List PE) : Prop := E.Pairwise fun a b => cmpP a.1 b.1 = -1
theorem rgo_true (p : Bs) (l : List Ver) : ∀ m : List DE, (∀ e ∈ m, e.1 ≠ p) → rgo p l true m = m
  | [], _ => rfl
  | e :: r, h => by
    rw [rgo, if_neg (by simp), if_neg (h e (List.mem_cons_self ..)), Bool.true_or, rgo_true p l r fun x hx => h x (List.mem_cons_of_mem _ hx)]
    rfl
theorem rgo_setE (p : Bs) (l : List Ver) : ∀ m : List DE, RiseE (toP m) → toP (rset m p l) = setE (toP m) (split p) l
  | [], _ => by
    unfold rset
    by_cases hl : l = [] <;> simp [rgo, setE, toP, hl]
  | e :: r, h => by
    have hr := List.pairwise_cons.1 h
    have ih := rgo_setE p l r hr.2
    have low : ∀ x ∈ r, cmpP (split e.1) (split x.1) = -1 := fun x hx => hr.1 (split x.1, x.2) (List.mem_map_of_mem hx)
    unfold rset at ih ⊢
    rw [rgo, show toP (e :: r) = (split e.1, e.2) :: toP r from rfl, setE]
    by_cases h1 : e.1 = p
    · have h2 : split e.1 = split p := by rw [h1]
      have ne : ∀ x ∈ r, x.1 ≠ p := fun x hx hp => by
        have := low x hx
        rw [h2, hp, cmpP_self] at this; cases this
      have c0 : compare p e.1 ≤ 0 := by unfold compare; rw [h2, cmpP_self]; exact Int.le_refl _
      rw [if_pos h1, if_pos h2]
      simp only [c0, and_true, decide_true, Bool.or_true, rgo_true p l r ne]
      by_cases hl : l = [] <;> simp [hl, toP]
    · have h2 : ¬ split e.1 = split p := fun hh => h1 (split_inj hh)
      rw [if_neg h1, if_neg h2]
      by_cases h3 : cmpP (split p) (split e.1) < 0
      · have h4 : cmpP (split p) (split e.1) = -1 := by rcases cmpP_range (split p) (split e.1) with h | h | h <;> omega
        have ne : ∀ x ∈ r, x.1 ≠ p := fun x hx hp => by
          have := cmpP_trans _ _ _ h4 (low x hx)
          rw [hp, cmpP_self] at this; cases this
        have c0 : compare p e.1 ≤ 0 := by unfold compare; omega
        rw [if_pos h3]
        simp only [c0, and_true, decide_true, Bool.or_true, rgo_true p l r ne]
        by_cases hl : l = [] <;> simp [hl, toP]
      · have c0 : ¬ compare p e.1 ≤ 0 := by
          unfold compare
          intro hc
          have : cmpP (split p) (split e.1) = 0 := by omega
          exact h2 (cmpP_zero this).symm
        rw [if_neg h3]
        simp only [c0, and_false, decide_false, Bool.or_false, if_false, List.nil_append]
        rw [← ih]
        rfl
theorem head_less {m n : Bs} (h : Op.bytesLess m n = true) (a b : List Bs) : cmpP (m :: a) (n :: b) = -1 := by
  have : m ≠ n := by rintro rfl; rw [less_irr] at h; cases h
  rw [cmpP, if_neg this]
  exact (less_cmp m n).1 h
mutual
theorem entries_rise : ∀ t, Ok t → RiseE (entries t)
  | .mk leaf kids, h => by
    obtain ⟨_, hr, hk⟩ := h
    have ih := entriesL_rise kids hr hk
    unfold entries RiseE
    by_cases hl : leaf = []
    · rw [if_pos hl, List.nil_append]; exact ih
    · rw [if_neg hl, List.singleton_append, List.pairwise_cons]
      refine ⟨fun e he => ?_, ih⟩
      obtain ⟨n, q, h1, _⟩ := entriesL_ne kids e he
      rw [h1]; rfl
theorem entriesL_rise : ∀ k, Rise k → OkL k → RiseE (entriesL k)
  | [], _, _ => List.Pairwise.nil
  | (n, t) :: r, hr, hk => by
    have hr2 := List.pairwise_cons.1 hr
    have i1 := entries_rise t hk.2.2.1
    have i2 := entriesL_rise r hr2.2 hk.2.2.2
    unfold entriesL RiseE
    rw [List.pairwise_append]
    refine ⟨List.pairwise_map.2 (i1.imp fun {a b} hab => ?_), i2, ?_⟩
    · show cmpP (n :: a.1) (n :: b.1) = -1
      rw [cmpP, if_pos rfl]; exact hab
    · intro a ha b hb
      obtain ⟨c, _, rfl⟩ := List.mem_map.1 ha
      obtain ⟨x, q, h1, h2⟩ := entriesL_ne r b hb
      rw [h1]
      exact head_less (hr2.1 x h2) _ _
end
end Sp
end Go.Proofs.YtmlfnidckfeebaaGreatDoor
