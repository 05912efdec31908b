/- A range over a function that tells a list: what its iterator reads stays while the body writes blocks of some types. What a tree in memory lists, and where: plain. Walks: what stands at a directory of a tree: its node, its leaf. Walks: the node of a directory of a tree. Walks: a tree's digests. Walks: the document's trees: what stands at a path; a name below a directory; what is below one. Walks: the document's word for 'below a directory'. -/
import Derived.Deep.Slices
import Derived.Test.YtmlfnidckfeebaaGreatDoorRF017
namespace Go.Proofs.YtmlfnidckfeebaaGreatDoor
open Go.RowKit
structure KB (T : TypeId → Prop) (B : Nat) (W W' : World) : Prop where
  below : Below B W W'
  row : ∀ (b : Nat) (cs : Array Value) (t : TypeId) (f : Nat × Nat), W.heap[b]? = some (.cells cs t f) → ¬ T t → W'.heap[b]? = some (.cells cs t f)
abbrev noT : TypeId → Prop := fun _ => False
theorem KB.refl (T : TypeId → Prop) (B : Nat) (W : World) : KB T B W W := ⟨Below.refl _ _, fun _ _ _ _ h _ => h⟩
theorem KB.trans {T : TypeId → Prop} {B : Nat} {a b c : World} (h : KB T B a b) (k : KB T B b c) : KB T B a c := ⟨h.below.trans k.below, fun i cs t f hi ht => k.row i cs t f (h.row i cs t f hi ht) ht⟩
theorem KB.ext {T : TypeId → Prop} {B : Nat} {a b : World} (hB : B ≤ a.heap.size) (h : Ext a b) : KB T B a b :=
  ⟨h.mono hB, fun i _ _ _ hi _ => (h.block i (Array.getElem?_eq_some_iff.1 hi).1).trans hi⟩
theorem KB.put {T : TypeId → Prop} {B l : Nat} {W : World} {r : Loop} (hB : B ≤ l) (h : W.heap[l]? = some (.loop r)) (o : Obj) : KB T B W (W.putObj l o) :=
  ⟨⟨rfl, rfl, rfl, by simp, fun k hk => World.putObj_heap_other (by omega)⟩, fun i cs t f hi _ => (World.putObj_heap_other (fun e => by rw [e, h] at hi; cases hi)).trans hi⟩
theorem range_keep {n : Nat} {P : Program} {α : Type} (T : TypeId → Prop) (E : World → Prop) {B : Nat} {g : Operand} {ps : Array Tmp} {assign body : Code} {Q : Exit → Act → World → Prop} {a : Act} {w : World}
    (h1 : 1 ≤ n) (hB : B ≤ w.heap.size) {gf : Nat} {lb : Array Value} (hg : a.eval g = .func (.func gf) #[] lb) (eg : ∀ args w, (callFunc gf args).run P w = .ok (.enter gf args) w)
    (encs : α → Array Value) (xs : List α) (hps : ∀ x, (encs x).size = ps.size)
    (hit : ∀ (l : Nat) (J : Nat → World → Prop) (W : World), Below w.heap.size w W → (∀ i W W', J i W → Ext W W' → J i W') → (∀ i W, J i W → E W) →
      (∀ i (hi : i < xs.length) (W1 : World) (m : Nat), J i W1 → YieldAt Fence.wide m P l (encs xs[i]) W1 fun e W' => e = .returned (.bool true) ∧ J (i + 1) W' ∧ KB T B W1 W') → J 0 W →
      CallsIn Fence.wide (n - 1) P gf (#[.func (.yield l) #[] #[]] ++ lb) W fun e W' => (∃ v, e = .returned v) ∧ J xs.length W')
    (I : Nat → World → Prop) (hI : ∀ i W W', I i W → KB noT B W W' → I i W') (hE : ∀ i W, I i W → E W) (h0 : I 0 w) (a₁ : α → Act)
    (hassign : ∀ (l m : Nat) (x : α) (W : World) (K : Act → World → Prop), K (a₁ x) W →
      assign.wpIn (Fence.wide.inRound l) m P (Exit.then K (fun _ _ _ => False)) { tmps := (ps.zip (encs x)).foldl (fun t (p, v) => t.setIfInBounds p v) a.tmps, defers := [] } W)
    (hbody : ∀ (l m i : Nat) (hi : i < xs.length) (W : World), I i W → body.wpIn (Fence.wide.inRound l) m P (fun e _ W' => e = .normal ∧ KeepsOthers W W' ∧ KB T B W W' ∧ I (i + 1) W') (a₁ xs[i]) W)
    (hdone : ∀ (D : Nat) (W : World), w.heap.size ≤ D → I xs.length W → W.heap[D]? = some (.deferred (some [])) → Q .normal { a with defers := { target := .collected D, args := #[] } :: a.defers } W) :
    (Code.rangeFunc g ps assign body).wpIn Fence.wide n P Q a w := by
  refine wpIn_rangeFunc fun fn hfn => ?_
  obtain ⟨rec, hrec⟩ : ∃ rec : LoopState → Option Code → Loop, rec = fun st pe => { state := st, pending := pe, fn, tmps := a.tmps, params := ps, assign, body, defers := w.heap.size } := ⟨_, rfl⟩
  obtain ⟨D, hD⟩ : ∃ D, D = w.heap.size := ⟨_, rfl⟩
  obtain ⟨L, hL⟩ : ∃ L, L = w.heap.size + 1 := ⟨_, rfl⟩
  obtain ⟨W1, hW1⟩ : ∃ W1, (w.alloc (.deferred (some []))).alloc (.loop (rec .ready none)) = W1 := ⟨_, rfl⟩
  have hs0 : (w.alloc (.deferred (some []))).heap.size = L := by rw [hL]; simp
  have hl1 : W1.heap[L]? = some (.loop (rec .ready none)) := by rw [← hW1, ← hs0]; exact World.alloc_heap_new _ _
  have hd1 : W1.heap[D]? = some (.deferred (some [])) := by
    rw [← hW1, hD]; exact (Below.heap_alloc _ _ _ (by simp)).trans (World.alloc_heap_new w _)
  have hb1 : Below w.heap.size w W1 := by rw [← hW1]; exact ((Below.refl _ w).alloc (Nat.le_refl _) _).alloc (by simp) _
  have hi1 : I 0 W1 := hI 0 _ _ h0 (KB.ext hB hb1)
  have hBL : B ≤ L := by omega
  refine ⟨L, [{ target := .collected w.heap.size, args := #[] }], W1, { target := .fn (.func gf) lb, args := #[.func (.yield L) #[] #[]] }, W1, gf, #[.func (.yield L) #[] #[]] ++ lb, W1, ?_, ?_, ?_, ?_, fun _ => h1, ?_⟩
  · rw [← hW1, hrec, hL]; exact run_enterLoop_outer _ _ _ _ _
  · simp only [resolve, hg]
    simp [go_sem]
  · intro f' hf'; exact trivial
  · simp [invoke, go_sem, eg]
  · refine (hit L (fun i W => I i W ∧ W.heap[L]? = some (.loop (rec .ready none)) ∧ W.heap[D]? = some (.deferred (some []))) W1 hb1
      (fun i W W' h e => ?_) (fun i W h => hE i W h.1) ?_ ⟨hi1, hl1, hd1⟩).mono ?_
    · have hlt : L < W.heap.size := (Array.getElem?_eq_some_iff.1 h.2.1).1
      exact ⟨hI i W W' h.1 (KB.ext (by omega) e), (e.block L hlt).trans h.2.1, (e.block D (by omega)).trans h.2.2⟩
    · rintro i hi W m ⟨hiW, hl, hd⟩
      have hlt : L < W.heap.size := (Array.getElem?_eq_some_iff.1 hl).1
      have hy := run_yield (P := P) (args := encs xs[i]) hl (by rw [hrec]; exact hps xs[i])
      rw [hrec] at hy
      refine ⟨fn, _, assign, body, hy, roundIn_of_wpIn hfn (hassign _ _ xs[i] W _ ⟨_, run_beginRound hl (by rw [hrec]), ?_⟩)⟩
      obtain ⟨busy, hbusy⟩ : ∃ busy : Loop, busy = { rec .ready none with state := .busy } := ⟨_, rfl⟩
      rw [← hbusy]
      have hl2 : (W.putObj L (.loop busy)).heap[L]? = some (.loop busy) := World.putObj_heap_same hlt
      have hd2 : (W.putObj L (.loop busy)).heap[D]? = some (.deferred (some [])) := (World.putObj_heap_other (by omega)).trans hd
      have k2 : ∀ T, KB T B W (W.putObj L (.loop busy)) := fun T => KB.put hBL hl _
      refine wpIn_mono (hbody _ _ i hi _ (hI i _ _ hiW (k2 _))) ?_
      rintro e a3 W3 ⟨rfl, hk3, hs3, hi3⟩
      have hl3 := hk3.same _ _ hl2 rfl
      have hd3 := hk3.same _ _ hd2 rfl
      have hr := run_endRound (P := P) (none : Option Code) hl3
      rw [hbusy, hrec] at hr
      refine ⟨_, _, hr, rfl, ⟨hI _ _ _ hi3 (KB.put hBL hl3 _), ?_, (World.putObj_heap_other (by omega)).trans hd3⟩, ?_⟩
      · rw [hrec]; exact World.putObj_heap_same (Array.getElem?_eq_some_iff.1 hl3).1
      · exact ((k2 T).trans hs3).trans (KB.put hBL hl3 _)
    · rintro e W2 ⟨⟨v, rfl⟩, hi, hl, hd⟩
      refine ⟨none, _, by have := run_endLoop (P := P) hl (by rw [hrec]; simp); rw [hrec] at this; exact this, ?_⟩
      rw [← hD]
      exact hdone D _ (by omega) (hI _ _ _ hi (KB.put hBL hl _)) ((World.putObj_heap_other (by omega)).trans hd)
end Go.Proofs.YtmlfnidckfeebaaGreatDoor
namespace Go.Proofs.YtmlfnidckfeebaaGreatDoor
open Go.RowKit Go.Shelf
abbrev LE := Option Addr × Nat × Sp.PE
def preL (n : Sp.Bs) (x : LE) : LE := (x.1, x.2.1, (n :: x.2.2.1, x.2.2.2))
def catL (d : List Sp.Bs) (x : LE) : LE := (x.1, x.2.1, (d ++ x.2.2.1, x.2.2.2))
theorem cat_pre (d : List Sp.Bs) (n : Sp.Bs) (x : LE) : catL d (preL n x) = catL (d ++ [n]) x := by simp [catL, preL]
def hereL (A : Option Addr) (c : Nat) (t : Sp.T) : List LE := if t.leaf = [] then [] else [(A, c, ([], t.leaf))]
def belowL : List (Sp.Bs × Sp.T) → List (List LE) → List LE
  | k :: r, m :: ms => m.map (preL k.1) ++ belowL r ms
  | _, _ => []
inductive ListAt (w : World) : Nat → Sp.T → List LE → Prop where
  | mk (g : Nat) (t : Sp.T) (A B C : Option Addr) (c c' c'' : Nat) (gs : List Nat) (ms : List (List LE)) (hp : PreAt w g t A B C c c' c'' gs (innerC A c B c' C c'' t)) (hm : ms.length = t.kids.length)
    (hK : ∀ i (h : i < t.kids.length), ListAt w (gs.getD i 0) (t.kids[i]).2 (ms.getD i [])) : ListAt w g t (hereL A c t ++ belowL t.kids ms)
theorem list_of {w : World} {g : Nat} {t : Sp.T} (h : InnerAt w g t) : ∃ m, ListAt w g t m := by
  induction h with
  | mk g t A B C c c' c'' gs hx hV hN hl hC hK ih =>
    obtain ⟨f, hf⟩ := Go.Deep.choose_lt (n := t.kids.length) (p := fun i (m : List LE) => ∀ (h : i < t.kids.length), ListAt w (gs.getD i 0) (t.kids[i]).2 m) (fun i hi => by
      obtain ⟨m, hm⟩ := ih i hi
      exact ⟨m, fun _ => hm⟩)
    refine ⟨_, .mk g t A B C c c' c'' gs ((List.range t.kids.length).map f) ⟨hx, innerC_size .., rfl, rfl, rfl, hV, hN, hl, hC, hK⟩ (by simp) fun i h => ?_⟩
    have := hf i h h
    simpa [List.getD_eq_getElem?_getD, h] using this
theorem below_entries : ∀ (k : List (Sp.Bs × Sp.T)) (ms : List (List LE)), ms.length = k.length → (∀ i (h : i < k.length), (ms.getD i []).map (·.2.2) = Sp.entries (k[i]).2) → (belowL k ms).map (·.2.2) = Sp.entriesL k
  | [], [], _, _ => rfl
  | (n, t) :: r, m :: ms, hl, h => by
    have h0 := h 0 (by simp)
    have ih := below_entries r ms (by simpa using hl) (fun i hi => by have := h (i + 1) (by simpa using hi); simpa using this)
    rw [belowL, Sp.entriesL, List.map_append, ih, List.map_map]
    congr 1
    simp only [List.getD_cons_zero, List.getElem_cons_zero] at h0
    rw [← h0, List.map_map]
    rfl
theorem list_entries {w : World} {g : Nat} {t : Sp.T} {m : List LE} (h : ListAt w g t m) : m.map (·.2.2) = Sp.entries t := by
  induction h with
  | mk g t A B C c c' c'' gs ms hp hm hK ih =>
    rw [List.map_append, below_entries t.kids ms hm ih]
    cases t with
    | mk leaf kids =>
      rw [Sp.entries]
      congr 1
      unfold hereL
      by_cases h : leaf = []
      · rw [if_pos h, if_pos (show (Sp.T.mk leaf kids).leaf = [] from h)]; rfl
      · rw [if_neg h, if_neg (show ¬ (Sp.T.mk leaf kids).leaf = [] from h)]; rfl
theorem mem_below : ∀ (k : List (Sp.Bs × Sp.T)) (ms : List (List LE)) (x : LE), ms.length = k.length → x ∈ belowL k ms → ∃ i, ∃ h : i < k.length, ∃ y ∈ ms.getD i [], x = preL (k[i]).1 y
  | [], [], x, _, h => by cases h
  | kt :: r, m :: ms, x, hl, h => by
    rw [belowL] at h
    rcases List.mem_append.1 h with h | h
    · obtain ⟨y, hy, rfl⟩ := List.mem_map.1 h
      exact ⟨0, by simp, y, by simpa using hy, rfl⟩
    · obtain ⟨i, hi, y, hy, rfl⟩ := mem_below r ms x (by simpa using hl) h
      exact ⟨i + 1, by simpa using hi, y, by simpa using hy, by simp⟩
theorem list_vers {w : World} {g : Nat} {t : Sp.T} {m : List LE} (h : ListAt w g t m) : ∀ x ∈ m, Vers w x.1 x.2.2.2 := by
  induction h with
  | mk g t A B C c c' c'' gs ms hp hm hK ih =>
    intro x hx
    rcases List.mem_append.1 hx with hx | hx
    · unfold hereL at hx
      split at hx
      · cases hx
      · obtain rfl := List.mem_singleton.1 hx
        exact hp.V
    · obtain ⟨i, hi, y, hy, rfl⟩ := mem_below _ _ _ hm hx
      exact ih i hi y hy
def offL : List (List LE) → Nat → Nat
  | m :: ms, k + 1 => m.length + offL ms k
  | _, _ => 0
theorem off_succ : ∀ (ms : List (List LE)) (k : Nat), k < ms.length → offL ms (k + 1) = offL ms k + (ms.getD k []).length
  | m :: ms, 0, _ => by
    cases ms <;> simp [offL]
  | m :: ms, k + 1, h => by
    have := off_succ ms k (by simpa using h)
    rw [offL, this, offL]
    simp
    omega
theorem below_len : ∀ (k : List (Sp.Bs × Sp.T)) (ms : List (List LE)), ms.length = k.length → (belowL k ms).length = offL ms ms.length
  | [], [], _ => rfl
  | kt :: r, m :: ms, h => by
    rw [belowL, List.length_append, List.length_map, below_len r ms (by simpa using h), List.length_cons, offL]
theorem below_at : ∀ (k : List (Sp.Bs × Sp.T)) (ms : List (List LE)) (i : Nat) (h : i < k.length), ms.length = k.length → ∀ j (hj : j < (ms.getD i []).length), (belowL k ms)[offL ms i + j]? = some (preL (k[i]).1 (ms.getD i [])[j])
  | kt :: r, m :: ms, 0, _, _, j, hj => by
    have hj' : j < m.length := by simpa using hj
    rw [belowL, show offL (m :: ms) 0 = 0 from rfl, Nat.zero_add, List.getElem?_append_left (by simpa using hj'), List.getElem?_map, List.getElem?_eq_getElem hj']
    simp
  | kt :: r, m :: ms, i + 1, h, hl, j, hj => by
    have ih := below_at r ms i (by simpa using h) (by simpa using hl) j (by simpa using hj)
    rw [belowL, offL, List.getElem?_append_right (by simp; omega), List.length_map, show m.length + offL ms i + j - m.length = offL ms i + j by omega, ih]
    simp
def encL (x : LE) : Array Value := #[.string (strOf (Sp.joinP x.2.2.1)), .slice x.1 x.2.2.2.length x.2.1]
def DirAt (W : World) (v : Value) (d : List Sp.Bs) : Prop := ∃ B, W.ownsRow B 9 1 v d.length (strsC d)
theorem DirAt.keep {T : TypeId → Prop} (hT : ¬ T 9) {B : Nat} {W W' : World} {v : Value} {d : List Sp.Bs} (h : DirAt W v d) (k : KB T B W W') : DirAt W' v d := by
  obtain ⟨b, h1, h2⟩ := h
  refine ⟨b, h1, ?_⟩
  rcases h2 with h2 | ⟨g, cap, cur, hv, hb, hg, rest⟩
  · exact .inl h2
  · exact .inr ⟨g, cap, cur, hv, hb, k.row _ _ _ _ hg hT, rest⟩
theorem DirAt.nil (W : World) : DirAt W (.slice none 0 0) [] := ⟨0, World.ownsRow_nil _ _ _ _⟩
theorem DirAt.read {W : World} {v : Value} {d : List Sp.Bs} (h : DirAt W v d) : ∃ A cap, v = .slice A d.length cap ∧ Nams W A d ∧ d.length ≤ cap := by
  obtain ⟨b, h⟩ := h
  obtain ⟨A, cap, rfl, hc⟩ := own_read h
  refine ⟨A, cap, rfl, hc, ?_⟩
  rcases h.2 with ⟨hv, h0⟩ | ⟨g, cap', cur, hv, _, _, hn, _⟩
  · omega
  · injection hv with _ _ h3; omega
end Go.Proofs.YtmlfnidckfeebaaGreatDoor
namespace Go.Proofs.YtmlfnidckfeebaaGreatDoor
open Go.RowKit Go.Shelf
attribute [local go_sem] yUpon strOf_toList
namespace Sp
theorem parts_len (d : Bs) : (parts d).length ≤ 4 := by
  unfold parts
  split
  · exact Nat.zero_le _
  · split
    · exact Nat.zero_le _
    · split
      · omega
      · exact Nat.zero_le _
def findS (t : T) (d : Bs) : Option T := if d = [] then some t else if parts d = [] then none else findT t (parts d)
theorem kid_fits {t : T} (h : Ok t) (hs : sizeT t ≤ 900000) {n : Bs} {s : T} (hk : kid t.kids n = some s) : Ok s ∧ sizeT s ≤ 900000 :=
  ⟨kid_ok t.kids n s (ok_rise h).2 hk, Nat.le_trans (kid_size t.kids n s hk) (by have := sizeT_n0 t; omega)⟩
end Sp
set_option maxRecDepth 100000 in
set_option maxHeartbeats 4000000 in
theorem find_calls (o : Option Sp.T) (v : Value) (d : Sp.Bs) (w : World) (h : TreeAt w v o) (hg : Sp.GoodO o) (K : KeysAt w 2) (M : MaxAt w) :
    Calls Tryz.prog 86 #[v, .string (strOf d)] w fun e w' => ∃ v', e = .returned v' ∧ OptAt w' v' (Sp.findS (o.getD .nil) d) ∧ Ext w w' := by
  have RC := Lib.hid (root_calls o v w h K)
  have MM := Lib.hid M
  obtain ⟨t, ht⟩ : ∃ t, t = o.getD .nil := ⟨_, rfl⟩
  rw [← ht] at RC ⊢
  have OK0 := Lib.hid (show Sp.Ok t by rw [ht]; exact getD_ok hg.1)
  have SZ0 := Lib.hid (show Sp.sizeT t ≤ 900000 by rw [ht, Sp.getD_size]; exact Nat.le_trans hg.2 (by decide))
  clear h K M ht hg
  go_enter Tryz.func86, Tryz.ntmps86
  go_wp2_with fail
  refine RC.out.mono ?_
  rintro e w1 ⟨g, rfl, hi, hb⟩
  have HI := Lib.hid hi
  have B1 := Lib.hid hb
  clear hi hb RC
  by_cases hd : d = []
  · subst hd
    have c1 : (([] : List UInt8).isEmpty) = true := rfl
    go_wp2
    go_ret
    exact ⟨_, rfl, .inr ⟨g, t, by rw [Sp.findS, if_pos rfl], rfl, HI.out⟩, B1.out⟩
  · have c1 : ((strOf d).toList == ([] : List UInt8)) = false := by rw [strOf_toList, beq_eq_false_iff_ne]; exact hd
    have c2 : ¬ strOf d = ⟨#[]⟩ := fun e => hd (by have := congrArg (fun s => s.data.toList) e; simpa using this)
    have c3 : ¬ d = [] := hd
    have c5 : d.isEmpty = false := by cases d with | nil => exact absurd rfl hd | cons _ _ => rfl
    have c6 : (d == []) = false := by rw [beq_eq_false_iff_ne]; exact hd
    have HD := Lib.hid hd
    clear hd
    go_wp2_with fail
    refine (parts_calls (strOf d) w1 (max_kept MM.out B1.out)).mono ?_
    intro e w2 hts
    obtain ⟨Ap, cp, rfl, hcp, hN, hb2⟩ := hts.nams
    rw [strOf_data] at hcp hN ⊢
    obtain ⟨ps, hps⟩ : ∃ ps, ps = Sp.parts d := ⟨_, rfl⟩
    have hp4 : ps.length ≤ 4 := by rw [hps]; exact Sp.parts_len d
    rw [← hps] at hcp hN ⊢
    have FS := Lib.hid (show Sp.findS t d = if ps = [] then none else Sp.findT t ps by rw [Sp.findS, if_neg HD.out, ← hps])
    have HN := Lib.hid hN
    have HI2 := Lib.hid (HI.out.ext hb2)
    have B2 := Lib.hid (B1.out.trans hb2)
    clear hts hcp hN hb2 hps
    by_cases hp : ps = []
    · subst hp
      go_wp2
      go_ret
      exact ⟨_, rfl, .inl ⟨by rw [FS.out]; simp, rfl⟩, B2.out⟩
    · have hl : ps.length ≠ 0 := fun h => hp (List.eq_nil_of_length_eq_zero h)
      have c4 : ((ps.length : Int) == 0) = false := by rw [beq_eq_false_iff_ne]; omega
      have FS2 := Lib.hid (show Sp.findS t d = Sp.findT t ps by rw [FS.out, if_neg hp])
      have HPN := Lib.hid hp
      clear hp
      go_wp2
      go_loopw [5, 21] (fun v5 v21 wr => ∃ (k gx : Nat) (tx : Sp.T), k ≤ ps.length ∧ v5 = .pointer (some ⟨gx, 0, none⟩) ∧ v21 = .int .i64 k ∧ InnerAt wr gx tx ∧ Sp.Ok tx ∧ Sp.sizeT tx ≤ 900000 ∧ Sp.findT tx (ps.drop k) = Sp.findT t ps ∧ Ext w2 wr) (fun _ v21 _ => ps.length - (intOf v21).toNat)
      case atStart => exact ⟨0, g, t, Nat.zero_le _, rfl, rfl, HI2.out, OK0.out, SZ0.out, rfl, Ext.refl _⟩
      case round =>
        obtain ⟨k, gx, tx, hk2, rfl, rfl, hix, hok, hsz, hft, hb⟩ := hrel
        have HB := Lib.hid hb
        by_cases hlt : k < ps.length
        · skip
          obtain ⟨nb, no, rfl, hnm⟩ := HN.out.at (by omega)
          have n1 := HB.out.cell (hnm k hlt)
          obtain ⟨n, hn⟩ : ∃ n, n = ps[k] := ⟨_, rfl⟩
          rw [← hn] at n1
          have FT := Lib.hid (show (Sp.kid tx.kids n).bind (fun s => Sp.findT s (ps.drop (k + 1))) = Sp.findT t ps by
            rw [List.drop_eq_getElem_cons hlt, ← hn] at hft
            exact hft)
          have KC := Lib.hid (ikid_calls tx gx n wr hix (ok_rise hok).1 (Sp.ok_fit hok (Nat.le_trans hsz (by decide))).2.2.1)
          have KF := Lib.hid (show ∀ s, Sp.kid tx.kids n = some s → Sp.Ok s ∧ Sp.sizeT s ≤ 900000 from fun s hs => Sp.kid_fits hok hsz hs)
          have b1 : (k : Int) < (ps.length : Int) := by omega
          clear hix hok hsz hft hb hnm hn
          go_wp2_with fail
          refine KC.out.mono ?_
          rintro e w4 ⟨v4, rfl, ho4, hb4⟩
          have E4 := Lib.hid (HB.out.trans hb4)
          rcases ho4 with ⟨h4, rfl⟩ | ⟨g4, t4, h4, rfl, hi4⟩
          · have F4 := Lib.hid (show Sp.findT t ps = none by rw [← FT.out, h4]; rfl)
            clear h4 hb4
            go_wp2
            go_ret
            exact ⟨_, rfl, .inl ⟨by rw [FS2.out, F4.out], rfl⟩, B2.out.trans E4.out⟩
          · have F4 := Lib.hid (show Sp.findT t4 (ps.drop (k + 1)) = Sp.findT t ps by rw [← FT.out, h4]; rfl)
            have OK4 := Lib.hid (KF.out t4 h4)
            have I4 := Lib.hid hi4
            clear h4 hb4 hi4
            go_wp2
            refine ⟨⟨k + 1, g4, t4, by omega, rfl, by go_num, I4.out, OK4.out.1, OK4.out.2, F4.out, E4.out⟩, by simp [intOf]; omega⟩
        · obtain rfl : k = ps.length := by omega
          rw [List.drop_length] at hft
          have F4 := Lib.hid (show some tx = Sp.findT t ps from hft)
          have I4 := Lib.hid hix
          clear hft hix hok hsz hb
          go_wp2
          go_ret
          exact ⟨_, rfl, .inr ⟨gx, tx, by rw [FS2.out, ← F4.out], rfl, I4.out⟩, B2.out.trans HB.out⟩
theorem results_cell_two {P : Program} {fn : Func} {p u : Tmp} {ty : TypeId} (h : fn.results = #[.cell p ty, .tmp u]) (tmps : Array Value) (w : World) (g : Nat) (t : TypeId) (cs : Array Value) (d : TypeDesc)
    (hp : tmps.getD p undef = .pointer (some ⟨g, 0, none⟩)) (hg : isBlk w g t cs) (hu : P.underlying ty = some d) (hd : (match d with | .struct _ | .array _ _ => true | _ => false) = true) (hi : (P.info? ty).map (·.size) = some cs.size) :
    (results fn tmps).run P w = .ok (.tuple #[.agg cs, tmps.getD u undef]) w := by
  rw [results_cell_tmp h, hp]
  simp only [asAddr, Sem.run_pure, Result.andThen_ok]
  rw [run_loadVar_row w g t ty cs (0, 0) d hg hu hd hi]
  rfl
namespace Sp
theorem findT_fits : ∀ (d : List Bs) (t s : T), Ok t → sizeT t ≤ 900000 → findT t d = some s → Ok s ∧ sizeT s ≤ 900000
  | [], t, s, h, hs, e => by cases e; exact ⟨h, hs⟩
  | n :: d, t, s, h, hs, e => by
    rw [findT] at e
    cases hk : kid t.kids n with
    | none => rw [hk] at e; cases e
    | some u =>
      rw [hk] at e
      have := kid_fits h hs hk
      exact findT_fits d u s this.1 this.2 e
theorem findS_fits {t s : T} {d : Bs} (h : Ok t) (hs : sizeT t ≤ 900000) (e : findS t d = some s) : Ok s ∧ sizeT s ≤ 900000 := by
  unfold findS at e
  split at e
  · cases e; exact ⟨h, hs⟩
  · split at e
    · cases e
    · exact findT_fits _ _ _ h hs e
def nodeS (t : T) (d : Bs) : Node := match findS t d with
  | none => ([], [])
  | some s => nodeT s
end Sp
set_option maxRecDepth 100000 in
set_option maxHeartbeats 4000000 in
theorem tnodeO_calls (o : Option Sp.T) (v : Value) (d : Sp.Bs) (w : World) (h : TreeAt w v o) (hg : Sp.GoodO o) (K : KeysAt w 2) (M : MaxAt w) :
    Calls Tryz.prog 212 #[v, .string (strOf d)] w fun e w' => ∃ A c B c', e = .returned (.tuple #[nodeV A (Sp.nodeS (o.getD .nil) d).1.length c B (Sp.nodeS (o.getD .nil) d).2.length c', .bool (Sp.findS (o.getD .nil) d).isSome]) ∧ Vers w' A (Sp.nodeS (o.getD .nil) d).1 ∧ Kids w' B (Sp.nodeS (o.getD .nil) d).2 ∧ Ext w w' ∧ w'.ownsRow w.heap.size 268 33 (.slice B (Sp.nodeS (o.getD .nil) d).2.length c') (Sp.nodeS (o.getD .nil) d).2.length (kidsC (Sp.nodeS (o.getD .nil) d).2) := by
  have FC := Lib.hid fun W (e : Ext w W) => find_calls o v d W (h.ext e) hg (K.ext e) (max_kept M e)
  obtain ⟨t, ht⟩ : ∃ t, t = o.getD .nil := ⟨_, rfl⟩
  rw [← ht] at FC ⊢
  have OK0 := Lib.hid (show Sp.Ok t by rw [ht]; exact getD_ok hg.1)
  have SZ0 := Lib.hid (show Sp.sizeT t ≤ 900000 by rw [ht, Sp.getD_size]; exact Nat.le_trans hg.2 (by decide))
  have tok1 : True := trivial
  clear h K M ht hg
  go_enter Tryz.func212, Tryz.ntmps212
  go_wp2_with (have _t := tok1; ((with_reducible refine at_alloc (t := 116) rfl ?_); refine box_new rfl (cs := #[.slice none 0 0, .slice none 0 0]) (t := 116) (by first | (go_simp; done) | (go_simp; rfl)) ?_; intro g2 w2 hg2 hx2 hb2; have H2 := Lib.hid hx2; have B2 := Lib.hid (show Ext w w2 from hb2); have GG2 := Lib.hid hg2; clear tok1 _t hx2 hb2 hg2))
  refine (FC.out w2 B2.out).mono ?_
  rintro e w3 ⟨v3, rfl, ho3, hb3⟩
  have B3 := Lib.hid (show Ext w2 w3 from hb3)
  have H3 := Lib.hid (H2.out.below hb3)
  clear hb3 FC
  rcases ho3 with ⟨h3, rfl⟩ | ⟨g3, s, h3, rfl, hi3⟩
  · have N3 := Lib.hid (show Sp.nodeS t d = ([], []) by rw [Sp.nodeS, h3])
    have F3 := Lib.hid h3
    have k0 := (H3.out.cell 0).trans rfl
    have k1 := (H3.out.cell 1).trans rfl
    have k2 := H3.out.frozen 0
    have k3 := H3.out.frozen 1
    clear h3
    go_wp2
    have hz := (H3.out.put 0 (.slice none 0 0) rfl).put 1 (.slice none 0 0) rfl
    refine bodyPost_ret (results_cell_two rfl _ _ g2 116 #[.slice none 0 0, .slice none 0 0] _ rfl hz Tryz.underlying116 rfl (by kernel_rfl)) rfl ?_
    rw [N3.out, F3.out]
    have e1 := (Only.set g2 0 (.slice none 0 0) w3).trans (Only.set g2 1 (.slice none 0 0) _)
    have BW := B2.out.trans B3.out
    exact ⟨none, 0, none, 0, rfl, ⟨[], rfl, Cells.nil _ _, fun x h => by cases h⟩, Kids.nil _ _, BW.from' (e1.below GG2.out BW.size), World.ownsRow_nil _ _ _ _⟩
  · have N3 := Lib.hid (show Sp.nodeS t d = Sp.nodeT s by rw [Sp.nodeS, h3])
    have F3 := Lib.hid h3
    have FT := Lib.hid (Sp.ok_fit (Sp.findS_fits OK0.out SZ0.out h3).1 (Nat.le_trans (Sp.findS_fits OK0.out SZ0.out h3).2 (by decide)))
    obtain ⟨A, B, C, c, c', c'', gs, hp⟩ := hi3.pre
    have IN := Lib.hid (inodeO_calls s g3 A B C c c' c'' gs _ w3 hp FT.out.1 FT.out.2.1 FT.out.2.2.1 FT.out.2.2.2.1)
    clear h3 hi3 hp
    go_wp2_with fail
    refine IN.out.mono ?_
    rintro e w4 ⟨A4, c4, B4, c5, rfl, hv4, hk4, hb4, ho4⟩
    have O4 := Lib.hid ho4
    have E34 := Lib.hid hb4
    have H4 := Lib.hid (H3.out.below hb4)
    have E4 := Lib.hid (B2.out.trans (B3.out.trans hb4))
    have V4 := Lib.hid hv4
    have K4 := Lib.hid hk4
    have k0 := (H4.out.cell 0).trans rfl
    have k1 := (H4.out.cell 1).trans rfl
    have k2 := H4.out.frozen 0
    have k3 := H4.out.frozen 1
    clear hv4 hk4 hb4 ho4
    go_wp2
    have hz := (H4.out.put 0 (.slice A4 s.leaf.length c4) rfl).put 1 (.slice B4 s.kids.length c5) rfl
    refine bodyPost_ret (results_cell_two rfl _ _ g2 116 #[.slice A4 s.leaf.length c4, .slice B4 s.kids.length c5] _ rfl hz Tryz.underlying116 rfl (by kernel_rfl)) rfl ?_
    have e1 := (Only.set g2 0 (.slice A4 s.leaf.length c4) w4).trans (Only.set g2 1 (.slice B4 s.kids.length c5) _)
    have hs : ∀ z ∈ (#[.slice none 0 0, .slice none 0 0] : Array Value).toList, isSl z = true := by decide
    have nlen : (Sp.nodeT s).2.length = s.kids.length := by rw [nodeT_kids, List.length_map]
    rw [N3.out, F3.out]
    refine ⟨A4, c4, B4, c5, by rw [nodeT_leaf, nlen]; rfl, ?_, K4.out.apart e1 H4.out hs, E4.out.from' (e1.below GG2.out E4.out.size), ?_⟩
    · rw [nodeT_leaf]
      exact V4.out.apart e1 H4.out hs
    · have hfar : (Value.slice B4 s.kids.length c5).ownBlock ≠ some g2 := fun e => by
        have h1 := (O4.out.lt g2 e).1
        have h2 := H2.out.lt
        have h3 := B3.out.size
        omega
      rw [nlen]
      refine own_lowT' (own_far (own_far O4.out hfar _) hfar _) ?_
      have h3 := B3.out.size
      have h4 := B2.out.size
      omega
set_option maxRecDepth 100000 in
set_option maxHeartbeats 4000000 in
theorem tget_calls (o : Option Sp.T) (v : Value) (d : Sp.Bs) (w : World) (h : TreeAt w v o) (hg : Sp.GoodO o) (K : KeysAt w 2) (M : MaxAt w) :
    Calls Tryz.prog 29 #[v, .string (strOf d)] w fun e w' => ∃ A c, e = .returned (.slice A (Sp.nodeS (o.getD .nil) d).1.length c) ∧ Vers w' A (Sp.nodeS (o.getD .nil) d).1 ∧ Ext w w' := by
  have FC := Lib.hid (find_calls o v d w h hg K M)
  obtain ⟨t, ht⟩ : ∃ t, t = o.getD .nil := ⟨_, rfl⟩
  rw [← ht] at FC ⊢
  have OK0 := Lib.hid (show Sp.Ok t by rw [ht]; exact getD_ok hg.1)
  have SZ0 := Lib.hid (show Sp.sizeT t ≤ 900000 by rw [ht, Sp.getD_size]; exact Nat.le_trans hg.2 (by decide))
  clear h K M ht hg
  go_enter Tryz.func29, Tryz.ntmps29
  go_wp2_with fail
  refine FC.out.mono ?_
  rintro e w3 ⟨v3, rfl, ho3, hb3⟩
  have B3 := Lib.hid (show Ext w w3 from hb3)
  clear hb3 FC
  rcases ho3 with ⟨h3, rfl⟩ | ⟨g3, s, h3, rfl, hi3⟩
  · have N3 := Lib.hid (show Sp.nodeS t d = ([], []) by rw [Sp.nodeS, h3])
    clear h3
    go_wp2
    go_ret
    rw [N3.out]
    exact ⟨none, 0, rfl, ⟨[], rfl, Cells.nil _ _, fun x h => by cases h⟩, B3.out⟩
  · have N3 := Lib.hid (show (Sp.nodeS t d).1 = s.leaf by rw [Sp.nodeS, h3]; exact nodeT_leaf s)
    have FT := Lib.hid (Sp.ok_fit (Sp.findS_fits OK0.out SZ0.out h3).1 (Nat.le_trans (Sp.findS_fits OK0.out SZ0.out h3).2 (by decide)))
    obtain ⟨A, B, C, c, c', c'', gs, hp⟩ := hi3.pre
    have CP := Lib.hid (copied_calls s.leaf A c w3 hp.V FT.out.1 FT.out.2.1)
    have f0 := (hp.blk.cell 0).trans hp.c0
    clear h3 hi3 hp
    go_wp2_with fail
    refine CP.out.mono ?_
    rintro e w4 ⟨v4, rfl, hO4, hb4⟩
    obtain ⟨A4, c4, rfl, hV4⟩ := hO4.read
    have V4 := Lib.hid hV4
    have E4 := Lib.hid (B3.out.trans hb4)
    clear hO4 hV4 hb4
    go_wp2
    go_ret
    rw [N3.out]
    exact ⟨A4, c4, rfl, V4.out, E4.out⟩
set_option maxRecDepth 100000 in
set_option maxHeartbeats 4000000 in
theorem troot_calls (o : Option Sp.T) (v : Value) (w : World) (h : TreeAt w v o) (K : KeysAt w 2) :
    Calls Tryz.prog 24 #[v] w fun e w' => e = .returned (digV (Sp.nsum (Sp.nodeT (o.getD .nil)))) ∧ Ext w w' := by
  have RC := Lib.hid fun W (e : Ext w W) => root_calls o v W (h.ext e) (K.ext e)
  obtain ⟨ds, hds⟩ : ∃ ds, ds = (Sp.nsum (Sp.nodeT (o.getD .nil))).map byteV := ⟨_, rfl⟩
  have DL := Lib.hid (show ds.length = 32 by rw [hds, List.length_map, Sp.nsum_len])
  have HD := Lib.hid hds
  have AS := Lib.hid (show ds.toArray.size = 32 by rw [List.size_toArray, hds, List.length_map, Sp.nsum_len])
  have DA := Lib.hid (show ds.toArray.all (·.oneCell') = true by rw [hds]; exact all_oneCell_toArray (bytes_one _))
  have tok1 : True := trivial
  have tok2 : True := trivial
  have tok3 : True := trivial
  clear h K hds
  go_enter Tryz.func24, Tryz.ntmps24
  go_wp2_with (have _t := tok1; ((with_reducible refine at_alloc (t := 36) rfl ?_); refine box_new rfl (cs := zero32) (t := 36) (by first | (go_simp; done) | (go_simp; rfl)) ?_; intro g2 w2 hg2 hx2 hb2; have H2 := Lib.hid hx2; have B2 := Lib.hid (show Ext w w2 from hb2); have GG2 := Lib.hid hg2; clear tok1 _t hx2 hb2 hg2))
  refine (RC.out w2 B2.out).mono ?_
  rintro e w3 ⟨g, rfl, hi, hb3⟩
  have H3 := Lib.hid (H2.out.below hb3)
  have E3 := Lib.hid (B2.out.trans hb3)
  have RNG := Lib.hid (show w3.rangeAt g 4 ds by rw [HD.out]; exact hi.cells.2.1)
  clear hi hb3 RC
  go_wp2_with (first
    | (have _t := tok2; ((with_reducible refine at_load (t := 36) rfl ?_); refine wpList_load_mid rfl _ _ rfl g 4 rfl ds _ RNG.out Tryz.underlying36 rfl (by rw [DL.out]; kernel_rfl) ?_; clear tok2 _t))
    | (have _t := tok3; ((with_reducible refine at_store (t := 36) rfl ?_); refine wpList_store_row rfl _ _ _ rfl g2 ds.toArray rfl rfl 36 _ H3.out (by rw [AS.out]; kernel_rfl) (by rw [AS.out]; rfl) DA.out ?_; clear tok3 _t)))
  refine bodyPost_ret (results_cell_row rfl _ _ g2 36 ds.toArray (0, 0) _ rfl (setRow_heap _ _ _ _ _ _ H3.out) Tryz.underlying36 rfl (by rw [AS.out]; kernel_rfl)) rfl ?_
  exact ⟨by rw [HD.out]; rfl, below_setRow E3.out GG2.out _⟩
set_option maxRecDepth 100000 in
set_option maxHeartbeats 4000000 in
theorem rget_calls (l : List Sp.DE) (A : Option Addr) (cap : Nat) (p : Sp.Bs) (w : World) (h : EntsAt w A l) (hl : l.length ≤ 1000000) :
    Calls Tryz.prog 78 #[.slice A l.length cap, .string (strOf p)] w fun e w' => ∃ Av cv, e = .returned (.slice Av (Sp.rget l p).length cv) ∧ Vers w' Av (Sp.rget l p) ∧ w = w' := by
  have HH := Lib.hid h
  clear h
  go_enter Tryz.func78, Tryz.ntmps78
  go_wp2
  go_loopw [5] (fun v5 wr => ∃ k : Nat, k ≤ l.length ∧ v5 = .int .i64 k ∧ Sp.rget (l.drop k) p = Sp.rget l p ∧ w = wr) (fun v5 _ => l.length - (intOf v5).toNat)
  case atStart => exact ⟨0, Nat.zero_le _, rfl, rfl, rfl⟩
  case round =>
    obtain ⟨k, hk2, rfl, hr, rfl⟩ := hrel
    by_cases hlt : k < l.length
    · obtain ⟨eb, eo, rfl, he⟩ := HH.out.at (by omega)
      obtain ⟨Av, cv, c0, c1, hv⟩ := he k hlt
      obtain ⟨x, hx⟩ : ∃ x, x = l[k] := ⟨_, rfl⟩
      have RG := Lib.hid (show (if x.1 = p then x.2 else Sp.rget (l.drop (k + 1)) p) = Sp.rget l p by
        rw [← hr, List.drop_eq_getElem_cons hlt, hx]; rfl)
      rw [← hx] at c0 c1 hv
      have HV := Lib.hid hv
      have b1 : (k : Int) < (l.length : Int) := by omega
      clear hr he hx hv
      by_cases hp : x.1 = p
      · have e1 : (x.1 == p) = true := by rw [hp]; exact beq_self_eq_true _
        have RG2 := Lib.hid (show x.2 = Sp.rget l p by rw [← RG.out, if_pos hp])
        have HPP := Lib.hid hp
        clear hp
        go_wp2
        go_ret
        rw [← RG2.out]
        exact ⟨Av, cv, rfl, HV.out, rfl⟩
      · have e1 : (x.1 == p) = false := by rw [beq_eq_false_iff_ne]; exact hp
        have RG2 := Lib.hid (show Sp.rget (l.drop (k + 1)) p = Sp.rget l p by rw [← RG.out, if_neg hp])
        go_wp2
        refine ⟨⟨k + 1, by omega, by go_num, RG2.out, by first | rfl | trivial⟩, by simp [intOf]; omega⟩
    · obtain rfl : k = l.length := by omega
      rw [List.drop_length] at hr
      have RG := Lib.hid (show ([] : List Sp.Ver) = Sp.rget l p from hr)
      clear hr
      go_wp2
      go_ret
      rw [← RG.out]
      exact ⟨none, 0, rfl, ⟨[], rfl, Cells.nil _ _, fun x h => by cases h⟩, rfl⟩
namespace Sp
def down (d n : Bs) : Bs := if d = [] then n else d ++ 47 :: n
end Sp
set_option maxRecDepth 100000 in
theorem down_calls (d n : Sp.Bs) (w : World) (hdl : d.length ≤ 1000) (hnl : n.length ≤ 1000) : Calls Tryz.prog 143 #[.string (strOf d), .string (strOf n)] w fun e w' => e = .returned (.string (strOf (Sp.down d n))) ∧ w = w' := by
  go_enter Tryz.func143, Tryz.ntmps143
  by_cases hd : d = []
  · subst hd
    have c1 : (([] : List UInt8).isEmpty) = true := rfl
    go_wp2
    go_ret
    exact ⟨by rw [Sp.down, if_pos rfl]; rfl, rfl⟩
  · have c5 : d.isEmpty = false := by cases d with | nil => exact absurd rfl hd | cons _ _ => rfl
    have c6 : (d == []) = false := by rw [beq_eq_false_iff_ne]; exact hd
    have z1 : ¬ 9223372036854775807 < (strOf d).size + 1 := by rw [strOf_size]; omega
    have z2 : ¬ 9223372036854775807 < (strOf d).size + 1 + (strOf n).size := by rw [strOf_size, strOf_size]; omega
    go_wp2
    go_ret
    have e : strOf d ++ ⟨#[47]⟩ ++ strOf n = strOf (Sp.down d n) := by
      rw [Sp.down, if_neg hd]
      apply ByteArray.ext
      simp [strOf]
    exact ⟨congrArg (fun s => Ending.returned (.string s)) e, rfl⟩
namespace Sp
def bad (p d : Bs) : Bool := decide (parts p = []) || (decide (d ≠ []) && decide (parts d = [])) || decide ((parts p).length ≤ (parts d).length)
theorem under_bad (p d : Bs) : under p d = (!bad p d && decide ((parts p).take (parts d).length = parts d)) := by
  have h : decide ((parts d).length < (parts p).length) = !decide ((parts p).length ≤ (parts d).length) := by
    rw [← decide_not]
    congr 1
    simp [Nat.not_le]
  unfold under bad
  simp only [ne_eq, decide_not, h]
  generalize decide (parts p = []) = a1
  generalize decide (d = []) = a2
  generalize decide (parts d = []) = a3
  generalize decide ((parts p).length ≤ (parts d).length) = a4
  cases a1 <;> cases a2 <;> cases a3 <;> cases a4 <;> rfl
end Sp
set_option maxRecDepth 100000 in
set_option maxHeartbeats 4000000 in
theorem under_calls (p d : Sp.Bs) (w : World) (hpl : p.length ≤ 1000000) (hdl : d.length ≤ 1000000) :
    Calls Tryz.prog 25 #[.string (strOf p), .string (strOf d)] w fun e w' => e = .returned (.bool (Sp.under p d)) ∧ Ext w w' := by
  have PP := Lib.hid (show ∀ W, _ from fun W => rparts_calls (strOf p) W (by rw [strOf_size]; omega))
  have PD := Lib.hid (show ∀ W, _ from fun W => rparts_calls (strOf d) W (by rw [strOf_size]; omega))
  have UB := Lib.hid (Sp.under_bad p d)
  have hP4 := Sp.parts_len p
  have hD4 := Sp.parts_len d
  rw [strOf_data] at PP PD
  obtain ⟨P, hP⟩ : ∃ P, P = Sp.parts p := ⟨_, rfl⟩
  obtain ⟨D, hD⟩ : ∃ D, D = Sp.parts d := ⟨_, rfl⟩
  rw [← hP, ← hD] at UB
  rw [← hP] at PP hP4
  rw [← hD] at PD hD4
  obtain ⟨bb, hbb⟩ : ∃ bb, bb = Sp.bad p d := ⟨_, rfl⟩
  rw [← hbb] at UB
  have HBB := Lib.hid (show bb = (decide (P = []) || (decide (d ≠ []) && decide (D = [])) || decide (P.length ≤ D.length)) by rw [hbb, Sp.bad, hP, hD])
  clear hP hD hbb
  go_enter Tryz.func25, Tryz.ntmps25
  go_wp2_with fail
  refine (PP.out w).mono ?_
  intro e w1 ht
  obtain ⟨A1, c1, rfl, _, hN1, hb1⟩ := ht.nams
  have N1 := Lib.hid hN1
  have B1 := Lib.hid hb1
  clear ht hN1 hb1
  go_wp2_with fail
  refine (PD.out w1).mono ?_
  intro e w2 ht
  obtain ⟨A2, c2, rfl, _, hN2, hb2⟩ := ht.nams
  have N2 := Lib.hid hN2
  have N12 := Lib.hid (N1.out.ext hb2)
  have B2 := Lib.hid (B1.out.trans hb2)
  clear ht hN2 hb2 PP PD
  go_upto_region 2 with fail
  go_cut [30] (fun v30 wx => v30 = .bool bb ∧ wx = w2)
  case first =>
    by_cases h1 : P = []
    · have r := Lib.hid (show bb = true by rw [HBB.out]; simp [h1])
      have e1 : P.length = 0 := by rw [h1]; rfl
      have z := Lib.hid h1
      clear h1
      go_wp2
      go_meet
      case rel => exact ⟨by rw [r.out], rfl⟩
    · have e1 : ((P.length : Int) == 0) = false := by rw [beq_eq_false_iff_ne]; intro h; exact h1 (List.eq_nil_of_length_eq_zero (by omega))
      have e2 : ¬ P.length = 0 := fun h => h1 (List.eq_nil_of_length_eq_zero h)
      by_cases h4 : P.length ≤ D.length
      · have f1 : (P.length : Int) ≤ (D.length : Int) := by omega
        have r := Lib.hid (show bb = true by rw [HBB.out]; simp [h4])
        by_cases h2 : d = []
        · subst h2
          have c1 : (([] : List UInt8).isEmpty) = true := rfl
          clear h1
          go_wp2
          go_meet
          case rel => exact ⟨by rw [r.out], rfl⟩
        · have c5 : d.isEmpty = false := by cases d with | nil => exact absurd rfl h2 | cons _ _ => rfl
          have c6 : (d == []) = false := by rw [beq_eq_false_iff_ne]; exact h2
          have e3 : ((D.length : Int) == 0) = false := by rw [beq_eq_false_iff_ne]; omega
          have e4 : ¬ D.length = 0 := by omega
          clear h1
          go_wp2
          go_meet
          case rel => exact ⟨by rw [r.out], rfl⟩
      · have f1 : ¬ (P.length : Int) ≤ (D.length : Int) := by omega
        by_cases h2 : d = []
        · subst h2
          have c1 : (([] : List UInt8).isEmpty) = true := rfl
          have r := Lib.hid (show bb = false by rw [HBB.out]; simp [h4, h1])
          clear h1
          go_wp2
          go_meet
          case rel => exact ⟨by rw [r.out], rfl⟩
        · have c5 : d.isEmpty = false := by cases d with | nil => exact absurd rfl h2 | cons _ _ => rfl
          have c6 : (d == []) = false := by rw [beq_eq_false_iff_ne]; exact h2
          by_cases h3 : D = []
          · have r := Lib.hid (show bb = true by rw [HBB.out]; simp [h2, h3])
            have e3 : ((D.length : Int) == 0) = true := by rw [h3]; rfl
            clear h1 h3
            go_wp2
            go_meet
            case rel => exact ⟨by rw [r.out], rfl⟩
          · have r := Lib.hid (show bb = false by rw [HBB.out]; simp [h4, h1, h3])
            have e3 : ((D.length : Int) == 0) = false := by rw [beq_eq_false_iff_ne]; intro h; exact h3 (List.eq_nil_of_length_eq_zero (by omega))
            have e4 : ¬ D.length = 0 := fun h => h3 (List.eq_nil_of_length_eq_zero h)
            clear h1 h3
            go_wp2
            go_meet
            case rel => exact ⟨by rw [r.out], rfl⟩
  case rest =>
    obtain ⟨rfl, hwc⟩ := hcut
    rw [hwc]
    clear hwc
    cases bb with
    | true =>
      go_wp2
      go_ret
      exact ⟨by rw [UB.out]; rfl, B2.out⟩
    | false =>
      have hlt0 : D.length < P.length := by
        have := HBB.out
        have h := this.symm
        simp only [Bool.or_eq_false_iff, decide_eq_false_iff_not] at h
        omega
      go_wp2
      go_loopw [7] (fun v7 wr => ∃ k : Nat, k ≤ D.length ∧ v7 = .int .i64 k ∧ P.take k = D.take k ∧ Ext w2 wr) (fun v7 _ => D.length - (intOf v7).toNat)
      case atStart => exact ⟨0, Nat.zero_le _, rfl, rfl, Ext.refl _⟩
      case round =>
        obtain ⟨k, hk2, rfl, ht, hb⟩ := hrel
        have HT := Lib.hid ht
        have HB := Lib.hid hb
        clear ht hb
        by_cases hlt : k < D.length
        · obtain ⟨a1, o1, rfl, hn1⟩ := N12.out.at (by omega)
          obtain ⟨a2, o2, rfl, hn2⟩ := N2.out.at (by omega)
          have hkP : k < P.length := by omega
          have x1 := HB.out.cell (hn1 k hkP)
          have x2 := HB.out.cell (hn2 k hlt)
          have TP := Lib.hid (List.take_succ_eq_append_getElem hkP)
          have TD := Lib.hid (List.take_succ_eq_append_getElem hlt)
          obtain ⟨y1, hy1⟩ : ∃ y, y = P[k] := ⟨_, rfl⟩
          obtain ⟨y2, hy2⟩ : ∃ y, y = D[k] := ⟨_, rfl⟩
          rw [← hy1] at x1 TP
          rw [← hy2] at x2 TD
          have X1 := Lib.hid (show wr.drew.cell? ⟨a1, o1 + k, none⟩ = some (.string (strOf y1)) from x1)
          have X2 := Lib.hid (show wr.drew.cell? ⟨a2, o2 + k, none⟩ = some (.string (strOf y2)) from x2)
          have b1 : (k : Int) < (D.length : Int) := by omega
          have b2 : (k : Int) < (P.length : Int) := by omega
          clear hn1 hn2 hy1 hy2 x1 x2
          by_cases hy : y1 = y2
          · have e1 : (y1 == y2) = true := by rw [hy]; exact beq_self_eq_true _
            have HY := Lib.hid hy
            clear hy
            go_wp2_with fail
            refine wp_region_det (fun W => W = wr.drew) (by kernel_rfl) (by kernel_rfl) rfl ?_
            repeat (first
              | (refine det_step (fun K hK => ?_)
                 apply Exists.intro
                 refine ⟨Or.inl ⟨rfl, fun W hS => ?_⟩, ?_⟩
                 · have hz : W = wr.drew := hS; subst hz; have x1 := X1.out; have x2 := X2.out
                   go_simp
                   first
                   | exact rfl
                   | exact ⟨rfl, hS⟩
                   | (fail)
                 go_simp
                 refine hK _ ?_
                 clear hK K)
              | (refine det_step (fun K hK => ?_); refine det_no' rfl ?_; go_simp; refine hK _ ?_; clear hK K))
            refine det_nil ?_
            rintro W rfl
            go_wp2
            refine ⟨⟨k + 1, by omega, by go_num, by rw [TP.out, TD.out, HT.out, HY.out], HB.out.drew⟩, by simp [intOf]; omega⟩
          · have e1 : (y1 == y2) = false := by rw [beq_eq_false_iff_ne]; exact hy
            have HY := Lib.hid hy
            clear hy
            go_wp2_with fail
            refine wp_region_det (fun W => W = wr.drew) (by kernel_rfl) (by kernel_rfl) rfl ?_
            repeat (first
              | (refine det_step (fun K hK => ?_)
                 apply Exists.intro
                 refine ⟨Or.inl ⟨rfl, fun W hS => ?_⟩, ?_⟩
                 · have hz : W = wr.drew := hS; subst hz; have x1 := X1.out; have x2 := X2.out
                   go_simp
                   first
                   | exact rfl
                   | exact ⟨rfl, hS⟩
                   | (fail)
                 go_simp
                 refine hK _ ?_
                 clear hK K)
              | (refine det_step (fun K hK => ?_); refine det_no' rfl ?_; go_simp; refine hK _ ?_; clear hK K))
            refine det_nil ?_
            rintro W rfl
            go_wp2
            go_ret
            refine ⟨?_, B2.out.trans HB.out.drew⟩
            rw [UB.out]
            have hne : ¬ P.take D.length = D := by
              intro h
              have h2 := congrArg (List.take (k + 1)) h
              rw [List.take_take, Nat.min_eq_left (by omega), TP.out, TD.out] at h2
              have h3 := List.append_inj_right' h2 rfl
              exact HY.out (by injection h3)
            rw [decide_eq_false hne]; rfl
        · obtain rfl : k = D.length := by omega
          have HT2 := Lib.hid (show P.take D.length = D by rw [HT.out, List.take_length])
          go_wp2
          go_ret
          refine ⟨?_, B2.out.trans HB.out⟩
          rw [UB.out, decide_eq_true HT2.out]; rfl
end Go.Proofs.YtmlfnidckfeebaaGreatDoor
