/- What a tree in memory lists, and where: plain. Walks: what stands at a directory of a tree: its node, its leaf. Walks: the node of a directory of a tree. Walks: a tree's digests. Walks: the document's trees: what stands at a path; a name below a directory; what is below one. Walks: the document's word for 'below a directory'. Walks: the names right below a directory, the document's. Walks: whether the document's tree has a node at a directory. Walks: which of two paths stands ahead, the reference's. Walks: the document's tree with a leaf at a path. Walks: the document's tree of some entries. The tree of some entries and the document's: plain. A directory below a directory, in the document's words: plain. -/
import Derived.Test.YteiblfcehlibpaaGreatDoorGF34
import Derived.Test.YteiblfcehlibpaaGreatDoorGF30
import Derived.Test.YteiblfcehlibpaaGreatDoorGF35
import Derived.Test.YteiblfcehlibpaaGreatDoorGF36
import Derived.Deep.Slices
import Derived.Test.YteiblfcehlibpaaGreatDoorGF26
import Derived.Test.YteiblfcehlibpaaGreatDoorGF01
import Derived.Deep.DeepCutAuto
namespace Go.Proofs.YteiblfcehlibpaaGreatDoor
open Go.RowKit Go.Shelf
/-- A leaf: where it lies; its path in parts, and the versions. -/
abbrev LE := Option Addr × Nat × Sp.PE
/-- .. below a name; below some. -/
def preL (n : Sp.Bs) (x : LE) : LE := (x.1, x.2.1, (n :: x.2.2.1, x.2.2.2))
def catL (d : List Sp.Bs) (x : LE) : LE := (x.1, x.2.1, (d ++ x.2.2.1, x.2.2.2))
theorem cat_pre (d : List Sp.Bs) (n : Sp.Bs) (x : LE) : catL d (preL n x) = catL (d ++ [n]) x := by simp [catL, preL]
def hereL (A : Option Addr) (c : Nat) (t : Sp.T) : List LE := if t.leaf = [] then [] else [(A, c, ([], t.leaf))]
def belowL : List (Sp.Bs × Sp.T) → List (List LE) → List LE
  | k :: r, m :: ms => m.map (preL k.1) ++ belowL r ms
  | _, _ => []
/-- What the tree at g lists. -/
inductive ListAt (w : World) : Nat → Sp.T → List LE → Prop where
  | mk (g : Nat) (t : Sp.T) (A B C : Option Addr) (c c' c'' : Nat) (gs : List Nat) (ms : List (List LE)) (hp : PreAt w g t A B C c c' c'' gs (innerC A c B c' C c'' t)) (hm : ms.length = t.kids.length)
    (hK : ∀ i (h : i < t.kids.length), ListAt w (gs.getD i 0) (t.kids[i]).2 (ms.getD i [])) : ListAt w g t (hereL A c t ++ belowL t.kids ms)
theorem list_of {w : World} {g : Nat} {t : Sp.T} (h : InnerAt w g t) : ∃ m, ListAt w g t m := by
  induction h with
  | mk g t A B C c c' c'' gs hx hV hN hl hC hK ih =>
    obtain ⟨f, hf⟩ := Go.Deep.choose_lt (n := t.kids.length) (p := fun i (m : List LE) => ∀ (h : i < t.kids.length), ListAt w (gs.getD i 0) (t.kids[i]).2 m) (fun i hi => by
      obtain ⟨m, hm⟩ := ih i hi
      exact ⟨m, fun _ => hm⟩)
    refine ⟨_, .mk g t A B C c c' c'' gs ((List.range t.kids.length).map f) ⟨hx, innerC_size .., rfl, rfl, rfl, hV, hN, hl, hC, hK⟩ (by simp) fun i h => ?_⟩
    have := hf i h h
    simpa [List.getD_eq_getElem?_getD, h] using this
theorem below_entries : ∀ (k : List (Sp.Bs × Sp.T)) (ms : List (List LE)), ms.length = k.length → (∀ i (h : i < k.length), (ms.getD i []).map (·.2.2) = Sp.entries (k[i]).2) → (belowL k ms).map (·.2.2) = Sp.entriesL k
  | [], [], _, _ => rfl
  | (n, t) :: r, m :: ms, hl, h => by
    have h0 := h 0 (by simp)
    have ih := below_entries r ms (by simpa using hl) (fun i hi => by have := h (i + 1) (by simpa using hi); simpa using this)
    rw [belowL, Sp.entriesL, List.map_append, ih, List.map_map]
    congr 1
    simp only [List.getD_cons_zero, List.getElem_cons_zero] at h0
    rw [← h0, List.map_map]
    rfl
theorem list_entries {w : World} {g : Nat} {t : Sp.T} {m : List LE} (h : ListAt w g t m) : m.map (·.2.2) = Sp.entries t := by
  induction h with
  | mk g t A B C c c' c'' gs ms hp hm hK ih =>
    rw [List.map_append, below_entries t.kids ms hm ih]
    cases t with
    | mk leaf kids =>
      rw [Sp.entries]
      congr 1
      unfold hereL
      by_cases h : leaf = []
      · rw [if_pos h, if_pos (show (Sp.T.mk leaf kids).leaf = [] from h)]; rfl
      · rw [if_neg h, if_neg (show ¬ (Sp.T.mk leaf kids).leaf = [] from h)]; rfl
theorem mem_below : ∀ (k : List (Sp.Bs × Sp.T)) (ms : List (List LE)) (x : LE), ms.length = k.length → x ∈ belowL k ms → ∃ i, ∃ h : i < k.length, ∃ y ∈ ms.getD i [], x = preL (k[i]).1 y
  | [], [], x, _, h => by cases h
  | kt :: r, m :: ms, x, hl, h => by
    rw [belowL] at h
    rcases List.mem_append.1 h with h | h
    · obtain ⟨y, hy, rfl⟩ := List.mem_map.1 h
      exact ⟨0, by simp, y, by simpa using hy, rfl⟩
    · obtain ⟨i, hi, y, hy, rfl⟩ := mem_below r ms x (by simpa using hl) h
      exact ⟨i + 1, by simpa using hi, y, by simpa using hy, by simp⟩
theorem list_vers {w : World} {g : Nat} {t : Sp.T} {m : List LE} (h : ListAt w g t m) : ∀ x ∈ m, Vers w x.1 x.2.2.2 := by
  induction h with
  | mk g t A B C c c' c'' gs ms hp hm hK ih =>
    intro x hx
    rcases List.mem_append.1 hx with hx | hx
    · unfold hereL at hx
      split at hx
      · cases hx
      · obtain rfl := List.mem_singleton.1 hx
        exact hp.V
    · obtain ⟨i, hi, y, hy, rfl⟩ := mem_below _ _ _ hm hx
      exact ih i hi y hy
/-- Where the entries of each kid begin. -/
def offL : List (List LE) → Nat → Nat
  | m :: ms, k + 1 => m.length + offL ms k
  | _, _ => 0
theorem off_succ : ∀ (ms : List (List LE)) (k : Nat), k < ms.length → offL ms (k + 1) = offL ms k + (ms.getD k []).length
  | m :: ms, 0, _ => by
    cases ms <;> simp [offL]
  | m :: ms, k + 1, h => by
    have := off_succ ms k (by simpa using h)
    rw [offL, this, offL]
    simp
    omega
theorem below_len : ∀ (k : List (Sp.Bs × Sp.T)) (ms : List (List LE)), ms.length = k.length → (belowL k ms).length = offL ms ms.length
  | [], [], _ => rfl
  | kt :: r, m :: ms, h => by
    rw [belowL, List.length_append, List.length_map, below_len r ms (by simpa using h), List.length_cons, offL]
theorem below_at : ∀ (k : List (Sp.Bs × Sp.T)) (ms : List (List LE)) (i : Nat) (h : i < k.length), ms.length = k.length → ∀ j (hj : j < (ms.getD i []).length), (belowL k ms)[offL ms i + j]? = some (preL (k[i]).1 (ms.getD i [])[j])
  | kt :: r, m :: ms, 0, _, _, j, hj => by
    have hj' : j < m.length := by simpa using hj
    rw [belowL, show offL (m :: ms) 0 = 0 from rfl, Nat.zero_add, List.getElem?_append_left (by simpa using hj'), List.getElem?_map, List.getElem?_eq_getElem hj']
    simp
  | kt :: r, m :: ms, i + 1, h, hl, j, hj => by
    have ih := below_at r ms i (by simpa using h) (by simpa using hl) j (by simpa using hj)
    rw [belowL, offL, List.getElem?_append_right (by simp; omega), List.length_map, show m.length + offL ms i + j - m.length = offL ms i + j by omega, ih]
    simp
/-- What is told of a leaf. -/
def encL (x : LE) : Array Value := #[.string (strOf (Sp.joinP x.2.2.1)), .slice x.1 x.2.2.2.length x.2.1]
/-- A directory, in a row of the walk's own. -/
def DirAt (W : World) (v : Value) (d : List Sp.Bs) : Prop := ∃ B, W.ownsRow B 9 1 v d.length (strsC d)
theorem DirAt.keep {T : TypeId → Prop} (hT : ¬ T 9) {B : Nat} {W W' : World} {v : Value} {d : List Sp.Bs} (h : DirAt W v d) (k : KB T B W W') : DirAt W' v d := by
  obtain ⟨b, h1, h2⟩ := h
  refine ⟨b, h1, ?_⟩
  rcases h2 with h2 | ⟨g, cap, cur, hv, hb, hg, rest⟩
  · exact .inl h2
  · exact .inr ⟨g, cap, cur, hv, hb, k.row _ _ _ _ hg hT, rest⟩
theorem DirAt.nil (W : World) : DirAt W (.slice none 0 0) [] := ⟨0, World.ownsRow_nil _ _ _ _⟩
theorem DirAt.read {W : World} {v : Value} {d : List Sp.Bs} (h : DirAt W v d) : ∃ A cap, v = .slice A d.length cap ∧ Nams W A d ∧ d.length ≤ cap := by
  obtain ⟨b, h⟩ := h
  obtain ⟨A, cap, rfl, hc⟩ := own_read h
  refine ⟨A, cap, rfl, hc, ?_⟩
  rcases h.2 with ⟨hv, h0⟩ | ⟨g, cap', cur, hv, _, _, hn, _⟩
  · omega
  · injection hv with _ _ h3; omega
end Go.Proofs.YteiblfcehlibpaaGreatDoor
namespace Go.Proofs.YteiblfcehlibpaaGreatDoor
open Go.RowKit Go.Shelf
attribute [local go_sem] yUpon strOf_toList
namespace Sp
theorem parts_len (d : Bs) : (parts d).length ≤ 4 := by
  unfold parts
  split
  · exact Nat.zero_le _
  · split
    · exact Nat.zero_le _
    · split
      · omega
      · exact Nat.zero_le _
end Sp
end Go.Proofs.YteiblfcehlibpaaGreatDoor
namespace Go.Proofs.YteiblfcehlibpaaGreatDoor
open Go.RowKit Go.Shelf
attribute [local go_sem] yUpon strOf_toList
namespace Sp
end Sp
end Go.Proofs.YteiblfcehlibpaaGreatDoor
namespace Go.Proofs.YteiblfcehlibpaaGreatDoor
open Go.RowKit Go.Shelf
attribute [local go_sem] yUpon strOf_toList
end Go.Proofs.YteiblfcehlibpaaGreatDoor
namespace Go.Proofs.YteiblfcehlibpaaGreatDoor
open Go.RowKit Go.Shelf
attribute [local go_sem] yUpon strOf_toList
namespace Sp
def down (d n : Bs) : Bs := if d = [] then n else d ++ 47 :: n
end Sp
end Go.Proofs.YteiblfcehlibpaaGreatDoor
namespace Go.Proofs.YteiblfcehlibpaaGreatDoor
open Go.RowKit Go.Shelf
attribute [local go_sem] yUpon strOf_toList
namespace Sp
end Sp
end Go.Proofs.YteiblfcehlibpaaGreatDoor
namespace Go.Proofs.YteiblfcehlibpaaGreatDoor
open Go.RowKit Go.Shelf
attribute [local go_sem] yUpon strOf_toList
namespace Sp
end Sp
end Go.Proofs.YteiblfcehlibpaaGreatDoor
namespace Go.Proofs.YteiblfcehlibpaaGreatDoor
open Go.RowKit Go.Shelf
attribute [local go_sem] yUpon strOf_toList
namespace Sp
end Sp
end Go.Proofs.YteiblfcehlibpaaGreatDoor
namespace Go.Proofs.YteiblfcehlibpaaGreatDoor
open Go.RowKit
attribute [local go_sem] yUpon
end Go.Proofs.YteiblfcehlibpaaGreatDoor
namespace Go.Proofs.YteiblfcehlibpaaGreatDoor
open Go.RowKit Go.Shelf
attribute [local go_sem] yUpon strOf_toList
theorem appEnt : AppStat Tryz.prog 22 51 2 40 := by
  refine ⟨Tryz.underlying22, by decide, by decide, ?_⟩
  obtain ⟨i0, hi, hz0, hz1, hz2⟩ := info_parts (show (Tryz.prog.info? 51).map (fun i => (i.zero, i.size, i.bytes)) = some (some (.agg #[.string ⟨#[]⟩, .slice none 0 0]), 2, 40) by kernel_rfl)
  exact ⟨i0, _, hi, hz0, hz1, hz2, rfl⟩
theorem entsC_snoc (m : List (Option Addr × Nat × Sp.DE)) (x : Option Addr × Nat × Sp.DE) : entsC (m ++ [x]) = entsC m ++ entC x := by
  induction m with
  | nil => simp [entsC]
  | cons y r ih => rw [List.cons_append, entsC, ih, entsC, List.append_assoc]
/-- Entries that are being gathered; their versions were there before. -/
def OutAt (w wr : World) (v : Value) (out : List Sp.DE) : Prop := ∃ m : List (Option Addr × Nat × Sp.DE), m.map (·.2.2) = out ∧ wr.ownsRow w.heap.size 51 2 v out.length (entsC m) ∧ ∀ x ∈ m, Vers w x.1 x.2.2.2
theorem OutAt.ext {w wr w' : World} {v : Value} {out : List Sp.DE} (h : OutAt w wr v out) (e : Ext wr w') : OutAt w w' v out := by
  obtain ⟨m, h1, h2, h3⟩ := h
  exact ⟨m, h1, own_ext h2 e, h3⟩
namespace Sp
def rsetS (l : List DE) (p : Bs) (vs : List Ver) : List DE × Int := if check p ≠ 0 then ([], check p) else if leaf vs ≠ 0 then ([], leaf vs) else if 128 < (rset l p vs).length then ([], 4) else (rset l p vs, 0)
end Sp
end Go.Proofs.YteiblfcehlibpaaGreatDoor
namespace Go.Proofs.YteiblfcehlibpaaGreatDoor
open Go.RowKit Go.Shelf
attribute [local go_sem] yUpon strOf_toList
namespace Sp
def rof : List DE → List DE → List DE × Int
  | m, [] => (m, 0)
  | m, e :: r => if (rsetS m e.1 e.2).2 ≠ 0 then ([], (rsetS m e.1 e.2).2) else rof (rsetS m e.1 e.2).1 r
theorem rgo_mem (p : Bs) (vs : List Ver) : ∀ (l : List DE) (b : Bool), ∀ e ∈ rgo p vs b l, e = (p, vs) ∨ e ∈ l
  | [], b, e, h => by
    rw [rgo] at h
    split at h
    · cases h
    · exact .inl (List.mem_singleton.1 h)
  | x :: r, b, e, h => by
    rw [rgo] at h
    rcases List.mem_append.1 h with h | h
    · split at h
      · exact .inl (List.mem_singleton.1 h)
      · cases h
    · rcases List.mem_append.1 h with h | h
      · split at h
        · cases h
        · rw [List.mem_singleton.1 h]; exact .inr (List.mem_cons_self ..)
      · rcases rgo_mem p vs r _ e h with h | h
        · exact .inl h
        · exact .inr (List.mem_cons_of_mem _ h)
/-- Entries that the document has gathered. -/
def GoodM (m : List DE) : Prop := Paths m ∧ m.length ≤ 128
theorem rsetS_ok {m : List DE} {p : Bs} {vs : List Ver} (h : (rsetS m p vs).2 = 0) : check p = 0 ∧ leaf vs = 0 ∧ (rsetS m p vs).1 = rset m p vs ∧ (rset m p vs).length ≤ 128 := by
  unfold rsetS at h ⊢
  by_cases h1 : check p = 0
  · rw [if_neg (by simpa using h1)] at h ⊢
    by_cases h2 : leaf vs = 0
    · rw [if_neg (by simpa using h2)] at h ⊢
      by_cases h3 : 128 < (rset m p vs).length
      · rw [if_pos h3] at h; exact absurd h (by decide)
      · rw [if_neg h3]; exact ⟨h1, h2, rfl, by omega⟩
    · rw [if_pos h2] at h; exact absurd h h2
  · rw [if_pos h1] at h; exact absurd h h1
theorem rsetS_good {m : List DE} {p : Bs} {vs : List Ver} (hm : GoodM m) (h : (rsetS m p vs).2 = 0) : GoodM (rsetS m p vs).1 := by
  obtain ⟨h1, _, h3, h4⟩ := rsetS_ok h
  rw [h3]
  refine ⟨fun e he => ?_, h4⟩
  rcases rgo_mem p vs m _ e he with rfl | he
  · exact h1
  · exact hm.1 e he
theorem goodM_nil : GoodM [] := ⟨(fun e h => by cases h), Nat.zero_le _⟩
theorem rof_good : ∀ (l m : List DE), GoodM m → GoodM (rof m l).1
  | [], m, h => h
  | e :: r, m, h => by
    rw [rof]
    by_cases hc : (rsetS m e.1 e.2).2 = 0
    · rw [if_neg (by simpa using hc)]; exact rof_good r _ (rsetS_good h hc)
    · rw [if_pos hc]; exact goodM_nil
end Sp
end Go.Proofs.YteiblfcehlibpaaGreatDoor
namespace Go.Proofs.YteiblfcehlibpaaGreatDoor
open Go.RowKit
namespace Sp
theorem toP_len (m : List DE) : (toP m).length = m.length := List.length_map ..
theorem riseO {o : Option T} (h : ∀ t, o = some t → Ok t) : RiseE (entriesO o) := by
  cases o with
  | none => exact List.Pairwise.nil
  | some t => exact entries_rise t (h t rfl)
/-- What a leaf at a path comes to, in the tree and in the document's list. -/
theorem set_both {o : Option T} {m : List DE} (he : toP m = entriesO o) (ho : GoodO o) (p : Bs) (l : List Ver) :
    (rsetS m p l).2 = setCode o p l ∧ (setCode o p l = 0 → toP (rsetS m p l).1 = entriesO (withO o (split p) l)) := by
  have e1 : toP (rset m p l) = entriesO (withO o (split p) l) := by
    rw [rgo_setE p l m (by rw [he]; exact riseO ho.1), he, with_entries _ _ _ ho.1]
  have e2 : (rset m p l).length = (entriesO (withO o (split p) l)).length := by rw [← e1, toP_len]
  by_cases h1 : check p = 0
  · by_cases h2 : leaf l = 0
    · by_cases h3 : 128 < (entriesO (withO o (split p) l)).length
      · have a1 : rsetS m p l = ([], 4) := by unfold rsetS; rw [if_neg (by simpa using h1), if_neg (by simpa using h2), if_pos (by rw [e2]; exact h3)]
        have a2 : setCode o p l = 4 := by unfold setCode; rw [if_neg (by simpa using h1), if_neg (by simpa using h2), if_pos h3]
        rw [a1, a2]; exact ⟨rfl, fun h => absurd h (by decide)⟩
      · have a1 : rsetS m p l = (rset m p l, 0) := by unfold rsetS; rw [if_neg (by simpa using h1), if_neg (by simpa using h2), if_neg (by rw [e2]; exact h3)]
        have a2 : setCode o p l = 0 := by unfold setCode; rw [if_neg (by simpa using h1), if_neg (by simpa using h2), if_neg h3]
        rw [a1, a2]; exact ⟨rfl, fun _ => e1⟩
    · have a1 : rsetS m p l = ([], leaf l) := by unfold rsetS; rw [if_neg (by simpa using h1), if_pos h2]
      have a2 : setCode o p l = leaf l := by unfold setCode; rw [if_neg (by simpa using h1), if_pos h2]
      rw [a1, a2]; exact ⟨rfl, fun h => absurd h h2⟩
  · have a1 : rsetS m p l = ([], check p) := by unfold rsetS; rw [if_pos h1]
    have a2 : setCode o p l = check p := by unfold setCode; rw [if_pos h1]
    rw [a1, a2]; exact ⟨rfl, fun h => absurd h h1⟩
theorem of_both : ∀ (l : List DE) (o : Option T) (m : List DE), toP m = entriesO o → GoodO o → (rof m l).2 = (ofT o l).2 ∧ toP (rof m l).1 = entriesO (ofT o l).1
  | [], o, m, he, _ => ⟨rfl, he⟩
  | e :: r, o, m, he, ho => by
    obtain ⟨s1, s2⟩ := set_both he ho e.1 e.2
    rw [rof, ofT, s1]
    by_cases hc : setCode o e.1 e.2 = 0
    · rw [if_neg (by simpa using hc), if_neg (by simpa using hc)]
      exact of_both r _ _ (s2 hc) (setCode_good hc ho)
    · rw [if_pos hc, if_pos hc]; exact ⟨rfl, rfl⟩
end Sp
end Go.Proofs.YteiblfcehlibpaaGreatDoor
namespace Go.Proofs.YteiblfcehlibpaaGreatDoor
open Go.RowKit
namespace Sp
/-- The kid of a name that stands there. -/
theorem kid_at : ∀ (k : List (Bs × T)) (i : Nat) (h : i < k.length), Rise k → kid k (k[i]).1 = some (k[i]).2
  | (m, s) :: r, 0, _, _ => by rw [kid, List.getElem_cons_zero, if_pos rfl]
  | (m, s) :: r, i + 1, h, hr => by
    obtain ⟨h1, h2⟩ := List.pairwise_cons.1 hr
    have hi : i < r.length := by simpa using h
    have hne : ¬ m = (r[i]).1 := by
      intro e
      have := h1 (r[i]).1 (List.mem_map_of_mem (List.getElem_mem hi))
      rw [← e, less_irr] at this
      cases this
    rw [List.getElem_cons_succ, kid, if_neg hne]
    exact kid_at r i hi h2
end Sp
end Go.Proofs.YteiblfcehlibpaaGreatDoor
