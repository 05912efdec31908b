/- Trees: plain. Walks: which of two paths stands ahead. Trees: what is put into one. Trees: what is put into one keeps what holds of trees. Trees: what is seen of one. Trees: kids by their places. Trees: what stands below a directory, told by the entries. A tree in memory. Building a kid: its name and its digest; a slice of one. -/
import Derived.Scope
import Derived.Great.BuildSlice
import Derived.Test.YtmlfnidckfeebaaGreatDoorP012
namespace Go.Proofs.YtmlfnidckfeebaaGreatDoor
open Go.RowKit
namespace Sp
/-- What stands at a directory. -/
inductive T where
  | mk (leaf : List Ver) (kids : List (Bs × T))
namespace T
def leaf : T → List Ver | mk l _ => l
def kids : T → List (Bs × T) | mk _ k => k
def nil : T := mk [] []
end T
/-- An entry, its path in parts. -/
abbrev PE := List Bs × List Ver
mutual
def entries : T → List PE
  | .mk leaf kids => (if leaf = [] then [] else [([], leaf)]) ++ entriesL kids
def entriesL : List (Bs × T) → List PE
  | [] => []
  | (n, t) :: r => (entries t).map (fun e => (n :: e.1, e.2)) ++ entriesL r
end
mutual
/-- The node. -/
def nodeT : T → Node
  | .mk leaf kids => (leaf, kidsT kids)
def kidsT : List (Bs × T) → List Kid
  | [] => []
  | (n, t) :: r => (n, nsum (nodeT t)) :: kidsT r
end
mutual
/-- What is seen of it. -/
def showT : T → T
  | .mk leaf kids => .mk (live leaf) (showL kids)
def showL : List (Bs × T) → List (Bs × T)
  | [] => []
  | (n, t) :: r => if entries (showT t) = [] then showL r else (n, showT t) :: showL r
end
mutual
/-- How many paths have versions. -/
def sizeT : T → Nat
  | .mk leaf kids => (if leaf = [] then 0 else 1) + sizeL kids
def sizeL : List (Bs × T) → Nat
  | [] => 0
  | (_, t) :: r => sizeT t + sizeL r
end
mutual
theorem sizeT_len : ∀ t, sizeT t = (entries t).length
  | .mk leaf kids => by
    rw [sizeT, entries, List.length_append, sizeL_len kids]
    split <;> rfl
theorem sizeL_len : ∀ k, sizeL k = (entriesL k).length
  | [] => rfl
  | (n, t) :: r => by rw [sizeL, entriesL, List.length_append, List.length_map, sizeT_len t, sizeL_len r]
end
mutual
/-- What holds of every tree that is made: names that rise, kids that have something, leaves and names that may be. -/
def Ok : T → Prop
  | .mk leaf kids => (leaf ≠ [] → Sp.leaf leaf = 0) ∧ (kids.map (·.1)).Pairwise (fun a b => Op.bytesLess a b = true) ∧ OkL kids
def OkL : List (Bs × T) → Prop
  | [] => True
  | (n, t) :: r => name n = true ∧ entries t ≠ [] ∧ Ok t ∧ OkL r
end
def kept (leaf : List Ver) (kids : List (Bs × T)) : Option T := if leaf = [] ∧ kids = [] then none else some (.mk leaf kids)
def kid (kids : List (Bs × T)) (n : Bs) : Option T := match kids with
  | [] => none
  | (m, t) :: r => if m = n then some t else kid r n
def putO (n : Bs) : Option T → List (Bs × T) → List (Bs × T)
  | none, r => r
  | some t, r => (n, t) :: r
/-- The kids with one that is put, or taken away. -/
def upd : List (Bs × T) → Bs → Option T → List (Bs × T)
  | [], n, o => putO n o []
  | (m, s) :: r, n, o => if m = n then putO n o r else if Op.bytesLess m n then (m, s) :: upd r n o else putO n o ((m, s) :: r)
def withO : Option T → List Bs → List Ver → Option T
  | x, [], l => kept l (x.getD .nil).kids
  | x, p :: ps, l => kept (x.getD .nil).leaf (upd (x.getD .nil).kids p (withO (kid (x.getD .nil).kids p) ps l))
def entriesO : Option T → List PE
  | none => []
  | some t => entries t
end Sp
end Go.Proofs.YtmlfnidckfeebaaGreatDoor
namespace Go.Proofs.YtmlfnidckfeebaaGreatDoor
open Go.RowKit
namespace Sp
/-- Pieces that are compared, one after the other. -/
def cmpP : List Bs → List Bs → Int
  | [], [] => 0
  | [], _ :: _ => -1
  | _ :: _, [] => 1
  | a :: l, b :: m => if a = b then cmpP l m else Lib.compareBytes a b
def compare (s t : Bs) : Int := cmpP (split s) (split t)
theorem cmpB_range : ∀ (a b : Bs), Lib.compareBytes a b = -1 ∨ Lib.compareBytes a b = 0 ∨ Lib.compareBytes a b = 1
  | [], [] => .inr (.inl rfl)
  | [], _ :: _ => .inl rfl
  | _ :: _, [] => .inr (.inr rfl)
  | a :: l, b :: m => by
    unfold Lib.compareBytes
    split
    · simp
    · split
      · simp
      · exact cmpB_range l m
theorem cmpB_eq : ∀ (a b : Bs), Lib.compareBytes a b = 0 ↔ a = b
  | [], [] => by simp [Lib.compareBytes]
  | [], _ :: _ => by simp [Lib.compareBytes]
  | _ :: _, [] => by simp [Lib.compareBytes]
  | a :: l, b :: m => by
    unfold Lib.compareBytes
    split
    · rename_i h; simp; rintro rfl; exact absurd h (UInt8.lt_irrefl _)
    · split
      · rename_i h; simp; rintro rfl; exact absurd h (UInt8.lt_irrefl _)
      · rename_i h1 h2
        have : a = b := UInt8.le_antisymm (UInt8.not_lt.1 h2) (UInt8.not_lt.1 h1)
        rw [cmpB_eq l m, List.cons.injEq]; simp [this]
theorem cmpP_range : ∀ (l m : List Bs), cmpP l m = -1 ∨ cmpP l m = 0 ∨ cmpP l m = 1
  | [], [] => .inr (.inl rfl)
  | [], _ :: _ => .inl rfl
  | _ :: _, [] => .inr (.inr rfl)
  | a :: l, b :: m => by
    unfold cmpP
    split
    · exact cmpP_range l m
    · exact cmpB_range a b
theorem cmpP_end (l m : List Bs) (h : l = [] ∨ m = []) : cmpP l m = max (-1) (min 1 ((l.length : Int) - m.length)) := by
  cases l with
  | nil => cases m with
    | nil => rfl
    | cons b m => simp [cmpP]; omega
  | cons a l => cases m with
    | nil => simp [cmpP]; omega
    | cons b m => simp at h
theorem cmpP_step (L M : List ByteArray) (k : Nat) (hl : k < L.length) (hm : k < M.length) : cmpP ((L.map (·.data.toList)).drop k) ((M.map (·.data.toList)).drop k) =
    if L[k].data.toList = M[k].data.toList then cmpP ((L.map (·.data.toList)).drop (k + 1)) ((M.map (·.data.toList)).drop (k + 1)) else Lib.compareBytes L[k].data.toList M[k].data.toList := by
  rw [List.drop_eq_getElem_cons (by simpa using hl), List.drop_eq_getElem_cons (i := k) (l := M.map (·.data.toList)) (by simpa using hm), cmpP]
  simp
end Sp
set_option maxRecDepth 100000 in
set_option maxHeartbeats 2000000 in
theorem pcheck_calls (s : ByteArray) (w : World) (hsh : ∃ m, w.cell? ⟨1, 0, none⟩ = some (.int .i64 m)) :
    Calls Tryz.prog 104 #[.string s] w fun e w' => e = .returned (.int .i64 (Sp.check s.data.toList)) ∧ Below w.heap.size w w' := by
  obtain ⟨n, hn⟩ : ∃ n, n = (Sp.parts s.data.toList).length := ⟨_, rfl⟩
  have P := Lib.hid (show Calls Tryz.prog 112 #[.string s] w fun e w' => ∃ A cap, e = .returned (.slice A n cap) ∧ Below w.heap.size w w' from (parts_calls s w hsh).mono (by
    rintro e w1 ⟨hb1, (⟨h0, rfl⟩ | ⟨g, cap, L, hl0, hlc, rfl, hL, hS, hg⟩)⟩
    · rw [h0] at hn; subst hn; exact ⟨_, _, rfl, hb1⟩
    · rw [← hL, List.length_map] at hn; subst hn; exact ⟨_, _, rfl, hb1⟩))
  have hdl : s.data.toList.length = s.size := by simp
  clear hsh
  by_cases h51 : 51 < s.size
  · have F := Lib.hid (show Sp.check s.data.toList = 2 by unfold Sp.check; rw [hdl, if_pos h51])
    have e1 : decide ((51 : Int) < (s.size : Int)) = true := by rw [decide_eq_true_iff]; omega
    clear hdl
    go_enter Tryz.func104, Tryz.ntmps104
    go_wp2_with fail
    go_ret
    exact ⟨by rw [F.out]; rfl, Below.refl _ _⟩
  · have F := Lib.hid (show Sp.check s.data.toList = if n = 0 then 1 else 0 by unfold Sp.check; rw [hdl, if_neg h51, hn])
    have e1 : decide ((51 : Int) < (s.size : Int)) = false := by rw [decide_eq_false_iff_not]; omega
    clear hdl hn
    by_cases h0 : n = 0
    · rw [if_pos h0] at F
      have b0 : ((n : Int) == 0) = true := by rw [h0]; rfl
      clear h0
      go_enter Tryz.func104, Tryz.ntmps104
      go_wp2_with (go_at_call 112; refine P.out.mono ?_; rintro e w1 ⟨A, cap, rfl, hb1⟩)
      go_ret
      exact ⟨by rw [F.out]; rfl, hb1⟩
    · rw [if_neg h0] at F
      have b0 : ((n : Int) == 0) = false := by rw [beq_eq_false_iff_ne]; omega
      clear h0
      go_enter Tryz.func104, Tryz.ntmps104
      go_wp2_with (go_at_call 112; refine P.out.mono ?_; rintro e w1 ⟨A, cap, rfl, hb1⟩)
      go_ret
      exact ⟨by rw [F.out]; rfl, hb1⟩
end Go.Proofs.YtmlfnidckfeebaaGreatDoor
namespace Go.Proofs.YtmlfnidckfeebaaGreatDoor
open Go.RowKit
namespace Sp
theorem less_cmp : ∀ (a b : Bs), Op.bytesLess a b = true ↔ Lib.compareBytes a b = -1
  | [], [] => by simp [Op.bytesLess, Lib.compareBytes]
  | [], _ :: _ => by simp [Op.bytesLess, Lib.compareBytes]
  | _ :: _, [] => by simp [Op.bytesLess, Lib.compareBytes]
  | a :: l, b :: m => by
    have ih := less_cmp l m
    unfold Op.bytesLess Lib.compareBytes
    by_cases h1 : a < b
    · simp [h1]
    · by_cases h2 : b < a
      · have : ¬ a = b := by rintro rfl; exact h1 h2
        simp [h1, h2, this]
      · have : a = b := UInt8.le_antisymm (UInt8.not_lt.1 h2) (UInt8.not_lt.1 h1)
        subst this
        simp [ih]
theorem cmp_swap : ∀ (a b : Bs), Lib.compareBytes a b = - Lib.compareBytes b a
  | [], [] => by simp [Lib.compareBytes]
  | [], _ :: _ => by simp [Lib.compareBytes]
  | _ :: _, [] => by simp [Lib.compareBytes]
  | a :: l, b :: m => by
    have ih := cmp_swap l m
    unfold Lib.compareBytes
    by_cases h1 : a < b
    · have h2 : ¬ b < a := fun h => UInt8.lt_asymm h1 h
      simp [h1, h2]
    · by_cases h2 : b < a
      · simp [h1, h2]
      · simp [h1, h2, ih]
/-- A rising list with what stands at a path now. -/
def setE : List PE → List Bs → List Ver → List PE
  | [], ps, l => if l = [] then [] else [(ps, l)]
  | (q, m) :: r, ps, l => if q = ps then (if l = [] then r else (ps, l) :: r)
    else if cmpP ps q < 0 then (if l = [] then (q, m) :: r else (ps, l) :: (q, m) :: r) else (q, m) :: setE r ps l
theorem entriesL_ne : ∀ (k : List (Bs × T)), ∀ e ∈ entriesL k, ∃ n q, e.1 = n :: q ∧ n ∈ k.map (·.1)
  | [], e, h => by cases h
  | (n, t) :: r, e, h => by
    rw [entriesL] at h
    rcases List.mem_append.1 h with h | h
    · obtain ⟨x, _, rfl⟩ := List.mem_map.1 h
      exact ⟨n, x.1, rfl, by simp⟩
    · obtain ⟨m, q, h1, h2⟩ := entriesL_ne r e h
      exact ⟨m, q, h1, by simp only [List.map_cons, List.mem_cons]; exact .inr h2⟩
theorem setE_map (p : Bs) (ps : List Bs) (l : List Ver) (R : List PE) (hR : ∀ e ∈ R, ∃ n q, e.1 = n :: q ∧ Op.bytesLess p n = true) : ∀ (E : List PE),
    setE (E.map (fun e => (p :: e.1, e.2)) ++ R) (p :: ps) l = (setE E ps l).map (fun e => (p :: e.1, e.2)) ++ R
  | [] => by
    cases R with
    | nil => simp only [List.map_nil, List.append_nil, setE]; split <;> simp
    | cons e r =>
      obtain ⟨n, q, h1, h2⟩ := hR e (List.mem_cons_self ..)
      obtain ⟨e1, e2⟩ := e
      cases h1
      have hne : ¬ n = p := by rintro rfl; rw [less_cmp, (cmpB_eq n n).2 rfl] at h2; cases h2
      have hc : cmpP (p :: ps) (n :: q) = -1 := by rw [cmpP, if_neg (fun h => hne h.symm)]; exact (less_cmp p n).1 h2
      simp only [List.map_nil, List.nil_append, setE]
      rw [if_neg (by simp [hne]), if_pos (by rw [hc]; decide)]
      split <;> simp
  | (q, m) :: r => by
    have ih := setE_map p ps l R hR r
    simp only [List.map_cons, List.cons_append, setE]
    have hc : cmpP (p :: ps) (p :: q) = cmpP ps q := by rw [cmpP, if_pos rfl]
    by_cases h1 : q = ps
    · subst h1
      rw [if_pos rfl, if_pos rfl]
      split <;> simp
    · rw [if_neg (by simp [h1]), if_neg h1, hc]
      split
      · split <;> simp
      · rw [ih]; simp
theorem setE_skip (p m : Bs) (ps : List Bs) (l : List Ver) (R : List PE) (hm : Op.bytesLess m p = true) : ∀ (E : List PE),
    setE (E.map (fun e => (m :: e.1, e.2)) ++ R) (p :: ps) l = E.map (fun e => (m :: e.1, e.2)) ++ setE R (p :: ps) l
  | [] => rfl
  | (q, v) :: r => by
    have ih := setE_skip p m ps l R hm r
    have hne : ¬ m = p := by rintro rfl; rw [less_cmp, (cmpB_eq m m).2 rfl] at hm; cases hm
    have hc : cmpP (p :: ps) (m :: q) = 1 := by rw [cmpP, if_neg (fun h => hne h.symm), cmp_swap, (less_cmp m p).1 hm]; rfl
    simp only [List.map_cons, List.cons_append, setE]
    rw [if_neg (by simp [hne]), if_neg (by rw [hc]; decide), ih]
theorem less_trans {a b c : Bs} (h1 : Op.bytesLess a b = true) (h2 : Op.bytesLess b c = true) : Op.bytesLess a c = true := by
  induction a generalizing b c with
  | nil => cases b with
    | nil => simp [Op.bytesLess] at h1
    | cons y b => cases c with
      | nil => simp [Op.bytesLess] at h2
      | cons z c => simp [Op.bytesLess]
  | cons x a ih => cases b with
    | nil => simp [Op.bytesLess] at h1
    | cons y b => cases c with
      | nil => simp [Op.bytesLess] at h2
      | cons z c =>
        simp only [Op.bytesLess, Bool.or_eq_true, decide_eq_true_eq, Bool.and_eq_true, beq_iff_eq] at *
        rcases h1 with h1 | ⟨rfl, h1⟩
        · rcases h2 with h2 | ⟨rfl, h2⟩
          · exact .inl (UInt8.lt_trans h1 h2)
          · exact .inl h1
        · rcases h2 with h2 | ⟨rfl, h2⟩
          · exact .inl h2
          · exact .inr ⟨rfl, ih h1 h2⟩
theorem less_irr (a : Bs) : Op.bytesLess a a = false := by
  rw [Bool.eq_false_iff]; intro h; rw [less_cmp, (cmpB_eq a a).2 rfl] at h; cases h
theorem less_other {a b : Bs} (h1 : ¬ a = b) (h2 : ¬ Op.bytesLess a b = true) : Op.bytesLess b a = true := by
  rw [less_cmp] at *
  rcases cmpB_range a b with h | h | h
  · exact absurd h h2
  · exact absurd ((cmpB_eq a b).1 h) h1
  · rw [cmp_swap, h]
def Rise (k : List (Bs × T)) : Prop := (k.map (·.1)).Pairwise (fun a b => Op.bytesLess a b = true)
theorem kid_none (k : List (Bs × T)) (p : Bs) (h : ∀ n ∈ k.map (·.1), Op.bytesLess p n = true) : kid k p = none := by
  induction k with
  | nil => rfl
  | cons x r ih =>
    obtain ⟨m, t⟩ := x
    have hm := h m (by simp)
    have hne : ¬ m = p := by rintro rfl; rw [less_irr] at hm; cases hm
    rw [kid, if_neg hne]
    exact ih (fun n hn => h n (by simp only [List.map_cons, List.mem_cons]; exact .inr hn))
theorem upd_entries (p : Bs) (ps : List Bs) (l : List Ver) : ∀ (k : List (Bs × T)), Rise k → OkL k → (o : Option T) → entriesO o = setE (entriesO (kid k p)) ps l → entriesL (upd k p o) = setE (entriesL k) (p :: ps) l
  | [], _, _, o, ho => by
    rw [show entriesO (kid [] p) = [] from rfl] at ho
    cases o with
    | none =>
      rw [show entriesO none = [] from rfl, setE] at ho
      rw [upd, putO, entriesL, setE]
      by_cases hl : l = []
      · rw [if_pos hl]
      · rw [if_neg hl] at ho; cases ho
    | some t =>
      rw [show entriesO (some t) = entries t from rfl, setE] at ho
      rw [upd, putO, show entriesL [(p, t)] = (entries t).map (fun e => (p :: e.1, e.2)) ++ [] from by rw [entriesL, entriesL], ho, entriesL, setE]
      split <;> simp
  | (m, s) :: r, hr, hk, o, ho => by
    obtain ⟨hr1, hr2⟩ := List.pairwise_cons.1 hr
    rw [OkL] at hk
    obtain ⟨_, hs, _, hk'⟩ := hk
    have hR : ∀ q, (∀ n ∈ r.map (·.1), Op.bytesLess q n = true) → ∀ e ∈ entriesL r, ∃ n x, e.1 = n :: x ∧ Op.bytesLess q n = true := fun q hq e he => by
      obtain ⟨n, x, h1, h2⟩ := entriesL_ne r e he
      exact ⟨n, x, h1, hq n h2⟩
    by_cases h1 : m = p
    · subst h1
      rw [show kid ((m, s) :: r) m = some s by rw [kid, if_pos rfl]] at ho
      rw [entriesL, setE_map m ps l _ (hR m hr1), upd, if_pos rfl]
      rw [show entriesO (some s) = entries s from rfl] at ho
      rw [← ho]
      cases o with
      | none => rfl
      | some t => rfl
    · rw [show kid ((m, s) :: r) p = kid r p by rw [kid, if_neg h1]] at ho
      by_cases h2 : Op.bytesLess m p = true
      · rw [upd, if_neg h1, if_pos h2, entriesL, entriesL, setE_skip p m ps l _ h2, upd_entries p ps l r hr2 hk' o ho]
      · have h3 := less_other h1 h2
        have hn : kid r p = none := kid_none r p (fun n hn => less_trans h3 (hr1 n hn))
        rw [hn, show entriesO none = [] from rfl] at ho
        rw [upd, if_neg h1, if_neg h2]
        have hR2 : ∀ e ∈ entriesL ((m, s) :: r), ∃ n x, e.1 = n :: x ∧ Op.bytesLess p n = true := fun e he => by
          obtain ⟨n, x, h1, h2⟩ := entriesL_ne _ e he
          refine ⟨n, x, h1, ?_⟩
          rcases List.mem_cons.1 h2 with rfl | h2
          · exact h3
          · exact less_trans h3 (hr1 n h2)
        have hM := setE_map p ps l (entriesL ((m, s) :: r)) hR2 []
        rw [List.map_nil, List.nil_append, ← ho] at hM
        rw [hM]
        cases o with
        | none => rfl
        | some t => rfl
theorem setE_root (l : List Ver) (k : List (Bs × T)) (leaf : List Ver) : setE ((if leaf = [] then [] else [([], leaf)]) ++ entriesL k) [] l = (if l = [] then [] else [([], l)]) ++ entriesL k := by
  by_cases h : leaf = []
  · rw [if_pos h, List.nil_append]
    cases hE : entriesL k with
    | nil => rw [setE, List.append_nil]
    | cons e r =>
      obtain ⟨n, q, h1, _⟩ := entriesL_ne k e (by rw [hE]; exact List.mem_cons_self ..)
      obtain ⟨e1, e2⟩ := e
      cases h1
      rw [setE, if_neg (by simp), if_pos (by rw [cmpP]; decide)]
      split <;> simp
  · rw [if_neg h, List.cons_append, List.nil_append, setE, if_pos rfl]
    split <;> simp
theorem setE_below (p : Bs) (ps : List Bs) (l leaf : List Ver) (E : List PE) : setE ((if leaf = [] then [] else [([], leaf)]) ++ E) (p :: ps) l = (if leaf = [] then [] else [([], leaf)]) ++ setE E (p :: ps) l := by
  split
  · rfl
  · rw [List.cons_append, List.nil_append, setE, if_neg (by simp), if_neg (by rw [cmpP]; decide)]
    rfl
theorem kept_entries (leaf : List Ver) (k : List (Bs × T)) : entriesO (kept leaf k) = (if leaf = [] then [] else [([], leaf)]) ++ entriesL k := by
  unfold kept
  split
  · rename_i h; rw [h.1, h.2]; rfl
  · rw [entriesO, entries]
theorem kid_ok : ∀ (k : List (Bs × T)) (p : Bs) (t : T), OkL k → kid k p = some t → Ok t
  | [], _, _, _, h => by cases h
  | (m, s) :: r, p, t, hk, h => by
    rw [OkL] at hk
    rw [kid] at h
    split at h
    · cases h; exact hk.2.2.1
    · exact kid_ok r p t hk.2.2.2 h
/-- What is put at a path of a tree is what is put at the path of its entries. -/
theorem with_entries : ∀ (ps : List Bs) (l : List Ver) (x : Option T), (∀ t, x = some t → Ok t) → entriesO (withO x ps l) = setE (entriesO x) ps l
  | [], l, x, _ => by
    rw [withO, kept_entries]
    cases x with
    | none => rw [show entriesO none = (if ([] : List Ver) = [] then [] else [([], [])]) ++ entriesL [] from rfl, setE_root]; rfl
    | some t => cases t with
      | mk leaf k => rw [show entriesO (some (T.mk leaf k)) = entries (.mk leaf k) from rfl, entries, setE_root]; rfl
  | p :: ps, l, x, hx => by
    rw [withO, kept_entries]
    cases x with
    | none =>
      have ih := with_entries ps l none (by intro t h; cases h)
      rw [show entriesO none = (if ([] : List Ver) = [] then [] else [([], [])]) ++ entriesL [] from rfl, setE_below]
      congr 1
      exact upd_entries p ps l [] List.Pairwise.nil trivial _ ih
    | some t => cases t with
      | mk leaf k =>
        have ho := hx _ rfl
        rw [Ok] at ho
        have ih := with_entries ps l (kid k p) (fun t h => kid_ok k p t ho.2.2 h)
        rw [show entriesO (some (T.mk leaf k)) = entries (.mk leaf k) from rfl, entries, setE_below]
        congr 1
        exact upd_entries p ps l k ho.2.1 ho.2.2 _ ih
end Sp
end Go.Proofs.YtmlfnidckfeebaaGreatDoor
namespace Go.Proofs.YtmlfnidckfeebaaGreatDoor
open Go.RowKit
namespace Sp
theorem upd_ok (p : Bs) (o : Option T) (ho : ∀ t, o = some t → name p = true ∧ entries t ≠ [] ∧ Ok t) : ∀ (k : List (Bs × T)), Rise k → OkL k → Rise (upd k p o) ∧ OkL (upd k p o) ∧ ∀ n ∈ (upd k p o).map (·.1), n = p ∨ n ∈ k.map (·.1)
  | [], _, _ => by
    cases o with
    | none => exact ⟨List.Pairwise.nil, trivial, fun n h => by cases h⟩
    | some t =>
      obtain ⟨h1, h2, h3⟩ := ho t rfl
      exact ⟨List.pairwise_singleton _ _, ⟨h1, h2, h3, trivial⟩, fun n h => by simpa [upd, putO] using h⟩
  | (m, s) :: r, hr, hk => by
    obtain ⟨hr1, hr2⟩ := List.pairwise_cons.1 hr
    have hk0 := hk
    rw [OkL] at hk
    obtain ⟨hm, hs, hso, hk'⟩ := hk
    rw [upd]
    by_cases h1 : m = p
    · subst h1
      rw [if_pos rfl]
      cases o with
      | none => exact ⟨hr2, hk', fun n h => .inr (by simp only [List.map_cons, List.mem_cons]; exact .inr h)⟩
      | some t =>
        obtain ⟨a1, a2, a3⟩ := ho t rfl
        exact ⟨List.pairwise_cons.2 ⟨hr1, hr2⟩, ⟨a1, a2, a3, hk'⟩, fun n h => by simpa [putO] using h⟩
    · rw [if_neg h1]
      by_cases h2 : Op.bytesLess m p = true
      · rw [if_pos h2]
        obtain ⟨i1, i2, i3⟩ := upd_ok p o ho r hr2 hk'
        refine ⟨List.pairwise_cons.2 ⟨fun n hn => ?_, i1⟩, ⟨hm, hs, hso, i2⟩, fun n hn => ?_⟩
        · rcases i3 n hn with rfl | h
          · exact h2
          · exact hr1 n h
        · rcases List.mem_cons.1 hn with rfl | hn
          · exact .inr (by simp)
          · rcases i3 n hn with h | h
            · exact .inl h
            · exact .inr (by simp only [List.map_cons, List.mem_cons]; exact .inr h)
      · rw [if_neg h2]
        have h3 := less_other h1 h2
        cases o with
        | none => exact ⟨hr, hk0, fun n h => .inr h⟩
        | some t =>
          obtain ⟨a1, a2, a3⟩ := ho t rfl
          refine ⟨List.pairwise_cons.2 ⟨fun n hn => ?_, hr⟩, ⟨a1, a2, a3, hk0⟩, fun n h => by simpa [putO] using h⟩
          rcases List.mem_cons.1 hn with rfl | hn
          · exact h3
          · exact less_trans h3 (hr1 n hn)
theorem entries_some {leaf : List Ver} {k : List (Bs × T)} (hk : OkL k) (h : ¬ (leaf = [] ∧ k = [])) : entries (.mk leaf k) ≠ [] := by
  rw [entries]
  intro e
  rw [List.append_eq_nil_iff] at e
  obtain ⟨e1, e2⟩ := e
  split at e1
  · rename_i hl
    cases k with
    | nil => exact h ⟨hl, rfl⟩
    | cons x r =>
      obtain ⟨n, t⟩ := x
      rw [OkL] at hk
      rw [entriesL, List.append_eq_nil_iff, List.map_eq_nil_iff] at e2
      exact hk.2.1 e2.1
  · cases e1
theorem kept_ok {leaf : List Ver} {k : List (Bs × T)} (hl : leaf ≠ [] → Sp.leaf leaf = 0) (hr : Rise k) (hk : OkL k) : ∀ t, kept leaf k = some t → entries t ≠ [] ∧ Ok t := by
  intro t h
  unfold kept at h
  split at h
  · cases h
  · rename_i hn
    cases h
    exact ⟨entries_some hk hn, by rw [Ok]; exact ⟨hl, hr, hk⟩⟩
theorem with_ok (l : List Ver) (hl : l ≠ [] → Sp.leaf l = 0) : ∀ (ps : List Bs) (x : Option T), (∀ n ∈ ps, name n = true) → (∀ t, x = some t → Ok t) → ∀ t, withO x ps l = some t → entries t ≠ [] ∧ Ok t
  | [], x, _, hx => by
    rw [withO]
    cases x with
    | none => exact kept_ok hl List.Pairwise.nil trivial
    | some t => cases t with
      | mk leaf k =>
        have ho := hx _ rfl
        rw [Ok] at ho
        exact kept_ok hl ho.2.1 ho.2.2
  | p :: ps, x, hn, hx => by
    rw [withO]
    have hps : ∀ n ∈ ps, name n = true := fun n h => hn n (List.mem_cons_of_mem _ h)
    cases x with
    | none =>
      have ih := with_ok l hl ps none hps (by intro t h; cases h)
      obtain ⟨u1, u2, _⟩ := upd_ok p (withO none ps l) (fun t h => ⟨hn p (List.mem_cons_self ..), ih t h⟩) [] List.Pairwise.nil trivial
      exact kept_ok (fun h => absurd rfl h) u1 u2
    | some t => cases t with
      | mk leaf k =>
        have ho := hx _ rfl
        rw [Ok] at ho
        have ih := with_ok l hl ps (kid k p) hps (fun t h => kid_ok k p t ho.2.2 h)
        obtain ⟨u1, u2, _⟩ := upd_ok p (withO (kid k p) ps l) (fun t h => ⟨hn p (List.mem_cons_self ..), ih t h⟩) k ho.2.1 ho.2.2
        exact kept_ok ho.1 u1 u2
end Sp
end Go.Proofs.YtmlfnidckfeebaaGreatDoor
namespace Go.Proofs.YtmlfnidckfeebaaGreatDoor
open Go.RowKit
namespace Sp
/-- There is something to be seen. -/
theorem showL_nil : ∀ k, showL k = [] ↔ entriesL (showL k) = []
  | [] => by simp [showL, entriesL]
  | (n, t) :: r => by
    have ih := showL_nil r
    rw [showL]
    by_cases h : entries (showT t) = []
    · rw [if_pos h]; exact ih
    · rw [if_neg h]
      constructor
      · intro h2; cases h2
      · intro h2
        rw [entriesL, List.append_eq_nil_iff, List.map_eq_nil_iff] at h2
        exact absurd h2.1 h
theorem shown_iff (leaf : List Ver) (k : List (Bs × T)) : (live leaf = [] ∧ showL k = []) ↔ entries (showT (.mk leaf k)) = [] := by
  rw [showT, entries, List.append_eq_nil_iff, ← showL_nil]
  constructor
  · rintro ⟨h1, h2⟩; exact ⟨if_pos h1, h2⟩
  · rintro ⟨h1, h2⟩
    refine ⟨?_, h2⟩
    split at h1
    · assumption
    · cases h1
end Sp
end Go.Proofs.YtmlfnidckfeebaaGreatDoor
namespace Go.Proofs.YtmlfnidckfeebaaGreatDoor
open Go.RowKit
namespace Sp
/-- How many names stand ahead of one. -/
def pos : List Bs → Bs → Nat
  | [], _ => 0
  | m :: r, t => if Op.bytesLess m t then pos r t + 1 else 0
theorem pos_le : ∀ (L : List Bs) (t : Bs), pos L t ≤ L.length
  | [], _ => Nat.le_refl _
  | m :: r, t => by have := pos_le r t; rw [pos]; split <;> simp <;> omega
theorem pos_less : ∀ (L : List Bs) (t : Bs), L.Pairwise (fun a b => Op.bytesLess a b = true) → ∀ k (h : k < L.length), Op.bytesLess L[k] t = decide (k < pos L t)
  | [], _, _, k, h => by simp at h
  | m :: r, t, hp, k, h => by
    obtain ⟨h1, h2⟩ := List.pairwise_cons.1 hp
    rw [pos]
    cases k with
    | zero =>
      rw [List.getElem_cons_zero]
      by_cases hm : Op.bytesLess m t = true
      · rw [if_pos hm, hm]; simp
      · rw [if_neg hm]; simpa using hm
    | succ k =>
      rw [List.getElem_cons_succ]
      by_cases hm : Op.bytesLess m t = true
      · rw [if_pos hm, pos_less r t h2 k (by simpa using h)]; simp
      · rw [if_neg hm]
        have hk' : k < r.length := by simpa using h
        have : ¬ Op.bytesLess (r[k]'hk') t = true := fun hk => hm (less_trans (h1 _ (List.getElem_mem _)) hk)
        simpa using this
theorem kid_pos : ∀ (k : List (Bs × T)) (t : Bs), Rise k → kid k t = if (k.map (·.1))[pos (k.map (·.1)) t]? = some t then (k[pos (k.map (·.1)) t]?).map (·.2) else none
  | [], t, _ => rfl
  | (m, s) :: r, t, hr => by
    obtain ⟨h1, h2⟩ := List.pairwise_cons.1 hr
    have ih := kid_pos r t h2
    rw [kid, List.map_cons, pos]
    by_cases hm : m = t
    · subst hm
      rw [if_pos rfl, less_irr]
      simp
    · rw [if_neg hm]
      by_cases hl : Op.bytesLess m t = true
      · rw [if_pos hl, List.getElem?_cons_succ, List.getElem?_cons_succ]; exact ih
      · rw [if_neg hl, List.getElem?_cons_zero, if_neg (by simpa using hm)]
        have h3 := less_other hm hl
        exact kid_none r t (fun n hn => less_trans h3 (h1 n hn))
/-- The kids, as the code puts one in, or takes it away, by its place. -/
theorem upd_pos : ∀ (k : List (Bs × T)) (t : Bs) (o : Option T), Rise k → upd k t o =
    if (k.map (·.1))[pos (k.map (·.1)) t]? = some t then (match o with | none => k.eraseIdx (pos (k.map (·.1)) t) | some u => k.set (pos (k.map (·.1)) t) (t, u))
    else (match o with | none => k | some u => k.take (pos (k.map (·.1)) t) ++ (t, u) :: k.drop (pos (k.map (·.1)) t))
  | [], t, o, _ => by cases o <;> rfl
  | (m, s) :: r, t, o, hr => by
    obtain ⟨h1, h2⟩ := List.pairwise_cons.1 hr
    have ih := upd_pos r t o h2
    rw [upd, List.map_cons, pos]
    by_cases hm : m = t
    · subst hm
      rw [if_pos rfl, less_irr]
      cases o <;> simp [putO]
    · rw [if_neg hm]
      by_cases hl : Op.bytesLess m t = true
      · rw [if_pos hl, if_pos hl, List.getElem?_cons_succ, ih]
        split
        · cases o <;> simp
        · cases o <;> simp
      · rw [if_neg hl, if_neg hl, List.getElem?_cons_zero, if_neg (by simpa using hm)]
        cases o <;> simp [putO]
end Sp
end Go.Proofs.YtmlfnidckfeebaaGreatDoor
namespace Go.Proofs.YtmlfnidckfeebaaGreatDoor
open Go.RowKit
namespace Sp
/-- The entries at or below a name, cut. -/
def sub1 (E : List PE) (n : Bs) : List PE := E.filterMap fun e => match e.1 with
  | [] => none
  | m :: q => if m = n then some (q, e.2) else none
theorem sub1_append (E F : List PE) (n : Bs) : sub1 (E ++ F) n = sub1 E n ++ sub1 F n := List.filterMap_append
theorem sub1_map (m n : Bs) : ∀ (E : List PE), sub1 (E.map (fun e => (m :: e.1, e.2))) n = if m = n then E else []
  | [] => by unfold sub1; simp
  | (q, l) :: r => by
    have ih := sub1_map m n r
    unfold sub1 at *
    rw [List.map_cons]
    by_cases h : m = n
    · rw [List.filterMap_cons_some (b := (q, l)) (by simp [h]), ih, if_pos h, if_pos h]
    · rw [List.filterMap_cons_none (by simp [h]), ih, if_neg h, if_neg h]
theorem sub1_other (n : Bs) : ∀ (k : List (Bs × T)), (∀ m ∈ k.map (·.1), m ≠ n) → sub1 (entriesL k) n = []
  | [], _ => rfl
  | (m, t) :: r, h => by
    rw [entriesL, sub1_append, sub1_map, if_neg (h m (by simp)), sub1_other n r (fun x hx => h x (by simp only [List.map_cons, List.mem_cons]; exact .inr hx))]
    rfl
theorem sub1_entriesL (n : Bs) : ∀ (k : List (Bs × T)), Rise k → sub1 (entriesL k) n = entriesO (kid k n)
  | [], _ => rfl
  | (m, t) :: r, hr => by
    obtain ⟨h1, h2⟩ := List.pairwise_cons.1 hr
    rw [entriesL, sub1_append, sub1_map, kid]
    by_cases h : m = n
    · subst h
      rw [if_pos rfl, if_pos rfl, sub1_other m r (fun x hx => by rintro rfl; have := h1 _ hx; rw [less_irr] at this; cases this), List.append_nil]
      rfl
    · rw [if_neg h, if_neg h, List.nil_append, sub1_entriesL n r h2]
theorem sub1_entries (n : Bs) (leaf : List Ver) (k : List (Bs × T)) (hr : Rise k) : sub1 (entries (.mk leaf k)) n = entriesO (kid k n) := by
  rw [entries, sub1_append, sub1_entriesL n k hr]
  split <;> rfl
/-- The leaf at the place itself. -/
def get0 : List PE → List Ver
  | [] => []
  | e :: r => if e.1 = [] then e.2 else get0 r
theorem get0_L : ∀ (E : List PE), (∀ e ∈ E, e.1 ≠ []) → get0 E = []
  | [], _ => rfl
  | e :: r, h => by rw [get0, if_neg (h e (List.mem_cons_self ..)), get0_L r (fun x hx => h x (List.mem_cons_of_mem _ hx))]
theorem get0_entries (leaf : List Ver) (k : List (Bs × T)) : get0 (entries (.mk leaf k)) = leaf := by
  have hL : get0 (entriesL k) = [] := get0_L _ (fun e he => by obtain ⟨n, q, h, _⟩ := entriesL_ne k e he; rw [h]; simp)
  rw [entries]
  split
  · rename_i h; rw [List.nil_append, hL, h]
  · rw [List.cons_append, get0, if_pos rfl]
/-- The names right below, told one after the other. -/
def namesE : List Bs → List PE → List Bs
  | out, [] => out
  | out, e :: r => match e.1 with
    | [] => namesE out r
    | s :: _ => namesE (if out.getLast? = some s then out else out ++ [s]) r
theorem namesE_map (m : Bs) (R : List PE) : ∀ (E : List PE) (out : List Bs), E ≠ [] → namesE out (E.map (fun e => (m :: e.1, e.2)) ++ R) = namesE (if out.getLast? = some m then out else out ++ [m]) R
  | [], _, h => absurd rfl h
  | [e], out, _ => rfl
  | e :: f :: r, out, _ => by
    have ih := fun out' => namesE_map m R (f :: r) out' (by simp)
    show namesE (if out.getLast? = some m then out else out ++ [m]) ((f :: r).map (fun e => (m :: e.1, e.2)) ++ R) = _
    by_cases h : out.getLast? = some m
    · rw [if_pos h, ih, if_pos h]
    · rw [if_neg h, ih, if_pos (by simp)]
theorem namesE_L : ∀ (k : List (Bs × T)) (out : List Bs), Rise k → OkL k → (∀ m ∈ k.map (·.1), out.getLast? ≠ some m) → namesE out (entriesL k) = out ++ k.map (·.1)
  | [], out, _, _, _ => by rw [entriesL, namesE]; simp
  | (m, t) :: r, out, hr, hk, ho => by
    obtain ⟨h1, h2⟩ := List.pairwise_cons.1 hr
    rw [OkL] at hk
    rw [entriesL, namesE_map m _ _ _ hk.2.1, if_neg (ho m (by simp)), namesE_L r (out ++ [m]) h2 hk.2.2.2]
    · simp
    · intro x hx e
      rw [List.getLast?_append, List.getLast?_singleton, Option.some_or] at e
      cases e
      have := h1 _ hx
      rw [less_irr] at this
      cases this
theorem namesE_entries (leaf : List Ver) (k : List (Bs × T)) (hr : Rise k) (hk : OkL k) : namesE [] (entries (.mk leaf k)) = k.map (·.1) := by
  rw [entries]
  have h := namesE_L k [] hr hk (by intro m _ h; cases h)
  split
  · rw [List.nil_append, h]; rfl
  · rw [List.cons_append, namesE, List.nil_append, h]; rfl
end Sp
end Go.Proofs.YtmlfnidckfeebaaGreatDoor
namespace Go.Proofs.YtmlfnidckfeebaaGreatDoor
open Go.RowKit Go.Shelf
/-- The cells of what stands at a directory. -/
def innerC (A : Option Addr) (c : Nat) (B : Option Addr) (c' : Nat) (C : Option Addr) (c'' : Nat) (t : Sp.T) : Array Value :=
  (([.slice A t.leaf.length c, .slice B t.kids.length c', .slice C t.kids.length c'', .int .i64 (Sp.sizeT t : Nat)] : List Value) ++ (Sp.nsum (Sp.nodeT t)).map byteV ++ (Sp.nsum (Sp.nodeT (Sp.showT t))).map byteV ++ ([.bool (decide (Sp.entries (Sp.showT t) ≠ []))] : List Value)).toArray
def ptrsC (gs : List Nat) : List Value := gs.map fun g => .pointer (some ⟨g, 0, none⟩)
/-- What stands at a directory, in memory. -/
inductive InnerAt (w : World) : Nat → Sp.T → Prop where
  | mk (g : Nat) (t : Sp.T) (A B C : Option Addr) (c c' c'' : Nat) (gs : List Nat) (hx : isBlk w g 122 (innerC A c B c' C c'' t)) (hV : Vers w A t.leaf) (hN : Nams w B (t.kids.map (·.1)))
    (hl : gs.length = t.kids.length) (hC : Cells w C (ptrsC gs)) (hK : ∀ i (h : i < t.kids.length), InnerAt w (gs.getD i 0) (t.kids[i]).2) : InnerAt w g t
theorem InnerAt.ext {w w' : World} (e : Ext w w') {g : Nat} {t : Sp.T} (h : InnerAt w g t) : InnerAt w' g t := by
  induction h with
  | mk g t A B C c c' c'' gs hx hV hN hl hC hK ih => exact .mk g t A B C c c' c'' gs (hx.below e) (hV.ext e) (hN.ext e) hl (hC.ext e) ih
end Go.Proofs.YtmlfnidckfeebaaGreatDoor
namespace Go.Proofs.YtmlfnidckfeebaaGreatDoor
open Go.RowKit Go.Shelf
theorem fold_putsA (off : Nat) : ∀ (l : List Value) (k : Nat) (cs : Array Value), (l.zipIdx k).foldl (fun (cs : Array Value) (x : Value × Nat) => cs.setIfInBounds (off + x.2) x.1) cs = putsA cs (off + k) l
  | [], _, _ => rfl
  | v :: r, k, cs => by rw [List.zipIdx_cons, List.foldl_cons, fold_putsA off r (k + 1), putsA]; rfl
theorem fold_putsA' (off : Nat) (c : Array Value) (cs : Array Value) : c.zipIdx.foldl (fun cs (x, j) => cs.setIfInBounds (off + j) x) cs = putsA cs off c.toList := by
  rw [← Array.foldl_toList, Array.toList_zipIdx]
  exact fold_putsA off c.toList 0 cs
theorem fill_two (place : Nat → Option (Nat × Nat)) (z : Array Value) (s : ByteArray) (d : List Value) (hz : z.size = 1 + d.length) (h0 : place 0 = some (0, 1)) (h1 : place 1 = some (1, d.length)) :
    Instr.fill place z [(0, .string s), (1, .agg d.toArray)] = some (.string s :: d).toArray := by
  unfold Instr.fill
  rw [h0]
  simp only [show (Value.string s).cells = #[.string s] from rfl]
  rw [if_neg (by simp [hz]), fold_putsA']
  unfold Instr.fill
  rw [h1]
  simp only [show (Value.agg d.toArray).cells = d.toArray from rfl]
  rw [if_neg (by simp [putsA_size, hz]), fold_putsA']
  unfold Instr.fill
  congr 1
  apply Array.ext_getElem?
  intro m
  rw [putsA_get _ _ _ _ (by rw [putsA_size]; simp; omega), putsA_get _ _ _ _ (by simp; omega)]
  simp only [List.getElem?_toArray, List.length_cons, List.length_nil]
  by_cases h2 : m = 0
  · subst h2
    rw [if_neg (by omega), if_pos (by omega)]; rfl
  · rw [if_neg (c := 0 ≤ m ∧ m < 0 + (0 + 1)) (by omega)]
    by_cases h3 : m < 1 + d.length
    · rw [if_pos ⟨by omega, h3⟩]
      cases m with
      | zero => exact absurd rfl h2
      | succ m => simp
    · rw [if_neg (fun h => h3 h.2), Array.getElem?_eq_none (by omega), List.getElem?_eq_none (by simp; omega)]
theorem built_kid (k : Sp.Kid) (h : k.2.length = 32) : (Tryz.prog).built 268 [(0, .string (strOf k.1)), (1, .agg (k.2.map byteV).toArray)] = some (kidL k).toArray := by
  have e : (Tryz.prog).built 268 [(0, .string (strOf k.1)), (1, .agg (k.2.map byteV).toArray)] = Instr.fill (fun i => (#[(0, 1), (1, 32)] : Array (Nat × Nat))[i]?) (#[.string ⟨#[]⟩] ++ Array.replicate 32 (.int .u8 0)) [(0, .string (strOf k.1)), (1, .agg (k.2.map byteV).toArray)] := by kernel_rfl
  rw [e]
  exact fill_two _ _ _ _ (by simp [h]) rfl (by rw [List.length_map, h]; rfl)
section
variable {P : Program} {ops : Array Oper}
theorem det_build {S : World → Prop} {a : Act} {o : Oper} {K : Act → Prop} (hw : Region.wanted o (yielded ops a.tmps) = true) (t : TypeId) (parts : Array (Nat × Operand)) (ho : o.op = .build t parts) (cells : Array Value)
    (hb : P.built t (parts.map fun (i, x) => (i, a.eval x)).toList = some cells) (h : K (a.put o.dst (.agg cells))) : ∃ v, YieldsS P ops S o v a ∧ K (a.put o.dst v) := by
  refine ⟨_, .inl ⟨hw, fun W hS => ?_⟩, h⟩
  unfold execOp
  simp only [ho, Sem.run_bind, run_build W t _ cells hb, Result.andThen_ok, Sem.run_pure]
  exact ⟨rfl, hS⟩
/-- For an arm of the walk's: this operation builds a slice. -/
theorem at_bslice {rest : List Oper} {o : Oper} {a : Act} {w : World} {Q : Exit → Act → World → Prop} {t : TypeId} {n : Nat} {ps : Array (Nat × Operand)} (_ho : o.op = .buildSlice t n ps) (h : wpList P ops Q (o :: rest) a w) : wpList P ops Q (o :: rest) a w := h
/-- A slice of one, whatever its cells are. -/
theorem bslice_one {rest : List Oper} {o : Oper} {a : Act} {w : World} {Q : Exit → Act → World → Prop} (hg : o.guard = none) (t e : TypeId) (x : Operand) (ho : o.op = .buildSlice t 1 #[(0, x)]) {size bytes : Nat} (hst : AppStat P t e size bytes) (hs : size ≤ 1000)
    (cells : Array Value) (hx : (a.eval x).cells = cells) (hc : cells.size = size)
    (h : wpList P ops Q rest (a.put o.dst (.slice (some ⟨w.heap.size, 0, none⟩) 1 1)) (w.alloc (.cells cells e))) : wpList P ops Q (o :: rest) a w := by
  obtain ⟨hu, h0, _, i, z, hi, hz, hsz, _, hzs⟩ := hst
  refine wpList_buildSlice hg t e 1 #[(0, x)] ho cells i z hu hi hz (by rw [hsz]; omega) (by rw [hsz]; omega) ?_ h
  have := Great.fill_whole (s := i.size) (by omega) [a.eval x] ((Array.range (1 * i.size)).map (z.cells[· % z.cells.size]!)) (by intro v hv; rw [List.mem_singleton.1 hv, hx, hc, hsz]) (by simp)
  simpa [hx] using this
end
theorem kidsT_map : ∀ (k : List (Sp.Bs × Sp.T)), Sp.kidsT k = k.map fun x => (x.1, Sp.nsum (Sp.nodeT x.2))
  | [] => rfl
  | (n, t) :: r => by rw [Sp.kidsT, kidsT_map r]; rfl
theorem kidsC_snoc (l : List Sp.Kid) (k : Sp.Kid) : kidsC (l ++ [k]) = kidsC l ++ kidL k := by
  induction l with
  | nil => simp [kidsC]
  | cons x r ih => rw [List.cons_append, kidsC, ih, kidsC, List.append_assoc]
theorem nodeT_kids (t : Sp.T) : (Sp.nodeT t).2 = t.kids.map fun x => (x.1, Sp.nsum (Sp.nodeT x.2)) := by
  cases t with
  | mk l k => rw [Sp.nodeT]; exact kidsT_map k
theorem nodeT_leaf (t : Sp.T) : (Sp.nodeT t).1 = t.leaf := by
  cases t with
  | mk l k => rfl
/-- A block that begins as what stands at a directory. -/
structure PreAt (w : World) (g : Nat) (t : Sp.T) (A B C : Option Addr) (c c' c'' : Nat) (gs : List Nat) (arr : Array Value) : Prop where
  blk : isBlk w g 122 arr
  size : arr.size = 69
  c0 : arr[0]? = some (.slice A t.leaf.length c)
  c1 : arr[1]? = some (.slice B t.kids.length c')
  c2 : arr[2]? = some (.slice C t.kids.length c'')
  V : Vers w A t.leaf
  N : Nams w B (t.kids.map (·.1))
  L : gs.length = t.kids.length
  P : Cells w C (ptrsC gs)
  K : ∀ i (h : i < t.kids.length), InnerAt w (gs.getD i 0) (t.kids[i]).2
theorem PreAt.ext {w w' : World} (e : Ext w w') {g : Nat} {t : Sp.T} {A B C : Option Addr} {c c' c'' : Nat} {gs : List Nat} {arr : Array Value} (h : PreAt w g t A B C c c' c'' gs arr) : PreAt w' g t A B C c c' c'' gs arr :=
  ⟨h.blk.below e, h.size, h.c0, h.c1, h.c2, h.V.ext e, h.N.ext e, h.L, h.P.ext e, fun i hi => (h.K i hi).ext e⟩
theorem ptrs_at {w : World} {gs : List Nat} {C : Option Addr} (h : Cells w C (ptrsC gs)) (k : Nat) (hk : k < gs.length) : ∃ cb co, C = some ⟨cb, co, none⟩ ∧ ∀ i, i < gs.length → w.cell? ⟨cb, co + i, none⟩ = some (.pointer (some ⟨gs.getD i 0, 0, none⟩)) := by
  have hne : ptrsC gs ≠ [] := by
    intro e
    have h3 : gs.length = 0 := by simpa [ptrsC] using congrArg List.length e
    omega
  obtain ⟨cb, co, hC, hc⟩ := h hne
  refine ⟨cb, co, hC, fun i hi => hc i _ ?_⟩
  simp [ptrsC, List.getD_eq_getElem?_getD, List.getElem?_eq_getElem hi]
theorem PreAt.at {w : World} {g : Nat} {t : Sp.T} {A B C : Option Addr} {c c' c'' : Nat} {gs : List Nat} {arr : Array Value} (h : PreAt w g t A B C c c' c'' gs arr) (k : Nat) (hk : k < t.kids.length) :
    ∃ cb co nb no, C = some ⟨cb, co, none⟩ ∧ B = some ⟨nb, no, none⟩ ∧ w.cell? ⟨cb, co + k, none⟩ = some (.pointer (some ⟨gs.getD k 0, 0, none⟩)) ∧ w.cell? ⟨nb, no + k, none⟩ = some (.string (strOf (t.kids[k]).1)) := by
  obtain ⟨cb, co, hC, hc⟩ := ptrs_at h.P k (by have := h.L; omega)
  obtain ⟨nb, no, hB, hn⟩ := h.N.at (by simp; omega)
  exact ⟨cb, co, nb, no, hC, hB, hc k (by have := h.L; omega), by have := hn k (by simpa using hk); rwa [List.getElem_map] at this⟩
theorem innerC_size (A : Option Addr) (c : Nat) (B : Option Addr) (c' : Nat) (C : Option Addr) (c'' : Nat) (t : Sp.T) : (innerC A c B c' C c'' t).size = 69 := by
  simp [innerC, Sp.nsum_len]
theorem InnerAt.pre {w : World} {g : Nat} {t : Sp.T} (h : InnerAt w g t) : ∃ A B C c c' c'' gs, PreAt w g t A B C c c' c'' gs (innerC A c B c' C c'' t) := by
  cases h with
  | mk g t A B C c c' c'' gs hx hV hN hl hC hK => exact ⟨A, B, C, c, c', c'', gs, hx, innerC_size .., rfl, rfl, rfl, hV, hN, hl, hC, hK⟩
/-- What is read of it: how many, the digests, whether anything is shown. -/
theorem InnerAt.cells {w : World} {g : Nat} {t : Sp.T} (h : InnerAt w g t) : w.cell? ⟨g, 3, none⟩ = some (.int .i64 (Sp.sizeT t : Nat)) ∧ w.rangeAt g 4 ((Sp.nsum (Sp.nodeT t)).map byteV) ∧ w.rangeAt g 36 ((Sp.nsum (Sp.nodeT (Sp.showT t))).map byteV) ∧
    w.cell? ⟨g, 68, none⟩ = some (.bool (decide (Sp.entries (Sp.showT t) ≠ []))) := by
  cases h with
  | mk g t A B C c c' c'' gs hx hV hN hl hC hK =>
    have n1 := Sp.nsum_len (Sp.nodeT t)
    have n2 := Sp.nsum_len (Sp.nodeT (Sp.showT t))
    refine ⟨hx.cell 3, ?_, ?_, ?_⟩
    · refine hx.rangeAt 4 _ fun j v hj => ?_
      have hj2 := (List.getElem?_eq_some_iff.1 hj).1
      simp only [innerC, List.getElem?_toArray]
      rw [List.getElem?_append_left (by simp at hj2 ⊢; omega), List.getElem?_append_left (by simp at hj2 ⊢; omega), List.getElem?_append_right (by simp)]
      simpa using hj
    · refine hx.rangeAt 36 _ fun j v hj => ?_
      have hj2 := (List.getElem?_eq_some_iff.1 hj).1
      simp only [innerC, List.getElem?_toArray]
      rw [List.getElem?_append_left (by simp at hj2 ⊢; omega), List.getElem?_append_right (by simp [n1])]
      simpa [n1] using hj
    · rw [hx.cell 68]
      simp only [innerC, List.getElem?_toArray]
      rw [List.getElem?_append_right (by simp [n1, n2])]
      simp [n1, n2]
end Go.Proofs.YtmlfnidckfeebaaGreatDoor
