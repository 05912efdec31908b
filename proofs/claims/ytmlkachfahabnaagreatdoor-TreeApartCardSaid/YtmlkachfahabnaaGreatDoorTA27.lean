/- Trees: plain. Walks: which of two paths stands ahead. Trees: what is put into one. Trees: what is put into one keeps what holds of trees. -/
import Derived.Test.YtmlkachfahabnaaGreatDoorTA05
import Derived.Test.YtmlkachfahabnaaGreatDoorTA17
import Derived.Test.YtmlkachfahabnaaGreatDoorTA06
import Derived.Scope
namespace Go.Proofs.YtmlkachfahabnaaGreatDoor
open Go.RowKit
namespace Sp
/-- What stands at a directory. -/
inductive T where
  | mk (leaf : List Ver) (kids : List (Bs × T))
namespace T
def leaf : T → List Ver | mk l _ => l
def kids : T → List (Bs × T) | mk _ k => k
def nil : T := mk [] []
end T
/-- An entry, its path in parts. -/
abbrev PE := List Bs × List Ver
mutual
def entries : T → List PE
  | .mk leaf kids => (if leaf = [] then [] else [([], leaf)]) ++ entriesL kids
def entriesL : List (Bs × T) → List PE
  | [] => []
  | (n, t) :: r => (entries t).map (fun e => (n :: e.1, e.2)) ++ entriesL r
end
mutual
/-- The node. -/
def nodeT : T → Node
  | .mk leaf kids => (leaf, kidsT kids)
def kidsT : List (Bs × T) → List Kid
  | [] => []
  | (n, t) :: r => (n, nsum (nodeT t)) :: kidsT r
end
mutual
/-- What is seen of it. -/
def showT : T → T
  | .mk leaf kids => .mk (live leaf) (showL kids)
def showL : List (Bs × T) → List (Bs × T)
  | [] => []
  | (n, t) :: r => if entries (showT t) = [] then showL r else (n, showT t) :: showL r
end
mutual
/-- How many paths have versions. -/
def sizeT : T → Nat
  | .mk leaf kids => (if leaf = [] then 0 else 1) + sizeL kids
def sizeL : List (Bs × T) → Nat
  | [] => 0
  | (_, t) :: r => sizeT t + sizeL r
end
mutual
theorem sizeT_len : ∀ t, sizeT t = (entries t).length
  | .mk leaf kids => by
    rw [sizeT, entries, List.length_append, sizeL_len kids]
    split <;> rfl
theorem sizeL_len : ∀ k, sizeL k = (entriesL k).length
  | [] => rfl
  | (n, t) :: r => by rw [sizeL, entriesL, List.length_append, List.length_map, sizeT_len t, sizeL_len r]
end
mutual
/-- What holds of every tree that is made: names that rise, kids that have something, leaves and names that may be. -/
def Ok : T → Prop
  | .mk leaf kids => (leaf ≠ [] → Sp.leaf leaf = 0) ∧ (kids.map (·.1)).Pairwise (fun a b => Op.bytesLess a b = true) ∧ OkL kids
def OkL : List (Bs × T) → Prop
  | [] => True
  | (n, t) :: r => name n = true ∧ entries t ≠ [] ∧ Ok t ∧ OkL r
end
def kept (leaf : List Ver) (kids : List (Bs × T)) : Option T := if leaf = [] ∧ kids = [] then none else some (.mk leaf kids)
def kid (kids : List (Bs × T)) (n : Bs) : Option T := match kids with
  | [] => none
  | (m, t) :: r => if m = n then some t else kid r n
def putO (n : Bs) : Option T → List (Bs × T) → List (Bs × T)
  | none, r => r
  | some t, r => (n, t) :: r
/-- The kids with one that is put, or taken away. -/
def upd : List (Bs × T) → Bs → Option T → List (Bs × T)
  | [], n, o => putO n o []
  | (m, s) :: r, n, o => if m = n then putO n o r else if Op.bytesLess m n then (m, s) :: upd r n o else putO n o ((m, s) :: r)
def withO : Option T → List Bs → List Ver → Option T
  | x, [], l => kept l (x.getD .nil).kids
  | x, p :: ps, l => kept (x.getD .nil).leaf (upd (x.getD .nil).kids p (withO (kid (x.getD .nil).kids p) ps l))
def entriesO : Option T → List PE
  | none => []
  | some t => entries t
end Sp
end Go.Proofs.YtmlkachfahabnaaGreatDoor
namespace Go.Proofs.YtmlkachfahabnaaGreatDoor
open Go.RowKit
namespace Sp
/-- Pieces that are compared, one after the other. -/
def cmpP : List Bs → List Bs → Int
  | [], [] => 0
  | [], _ :: _ => -1
  | _ :: _, [] => 1
  | a :: l, b :: m => if a = b then cmpP l m else Lib.compareBytes a b
def compare (s t : Bs) : Int := cmpP (split s) (split t)
theorem cmpB_range : ∀ (a b : Bs), Lib.compareBytes a b = -1 ∨ Lib.compareBytes a b = 0 ∨ Lib.compareBytes a b = 1
  | [], [] => .inr (.inl rfl)
  | [], _ :: _ => .inl rfl
  | _ :: _, [] => .inr (.inr rfl)
  | a :: l, b :: m => by
    unfold Lib.compareBytes
    split
    · simp
    · split
      · simp
      · exact cmpB_range l m
theorem cmpB_eq : ∀ (a b : Bs), Lib.compareBytes a b = 0 ↔ a = b
  | [], [] => by simp [Lib.compareBytes]
  | [], _ :: _ => by simp [Lib.compareBytes]
  | _ :: _, [] => by simp [Lib.compareBytes]
  | a :: l, b :: m => by
    unfold Lib.compareBytes
    split
    · rename_i h; simp; rintro rfl; exact absurd h (UInt8.lt_irrefl _)
    · split
      · rename_i h; simp; rintro rfl; exact absurd h (UInt8.lt_irrefl _)
      · rename_i h1 h2
        have : a = b := UInt8.le_antisymm (UInt8.not_lt.1 h2) (UInt8.not_lt.1 h1)
        rw [cmpB_eq l m, List.cons.injEq]; simp [this]
theorem cmpP_range : ∀ (l m : List Bs), cmpP l m = -1 ∨ cmpP l m = 0 ∨ cmpP l m = 1
  | [], [] => .inr (.inl rfl)
  | [], _ :: _ => .inl rfl
  | _ :: _, [] => .inr (.inr rfl)
  | a :: l, b :: m => by
    unfold cmpP
    split
    · exact cmpP_range l m
    · exact cmpB_range a b
end Sp
set_option maxRecDepth 100000 in
set_option maxHeartbeats 2000000 in
theorem pcheck_calls (s : ByteArray) (w : World) (hsh : ∃ m, w.cell? ⟨1, 0, none⟩ = some (.int .i64 m)) :
    Calls Tryz.prog 33 #[.string s] w fun e w' => e = .returned (.int .i64 (Sp.check s.data.toList)) ∧ Below w.heap.size w w' := by
  obtain ⟨n, hn⟩ : ∃ n, n = (Sp.parts s.data.toList).length := ⟨_, rfl⟩
  have P := Lib.hid (show Calls Tryz.prog 36 #[.string s] w fun e w' => ∃ A cap, e = .returned (.slice A n cap) ∧ Below w.heap.size w w' from (parts_calls s w hsh).mono (by
    rintro e w1 ⟨hb1, (⟨h0, rfl⟩ | ⟨g, cap, L, hl0, hlc, rfl, hL, hS, hg⟩)⟩
    · rw [h0] at hn; subst hn; exact ⟨_, _, rfl, hb1⟩
    · rw [← hL, List.length_map] at hn; subst hn; exact ⟨_, _, rfl, hb1⟩))
  have hdl : s.data.toList.length = s.size := by simp
  clear hsh
  by_cases h51 : 51 < s.size
  · have F := Lib.hid (show Sp.check s.data.toList = 2 by unfold Sp.check; rw [hdl, if_pos h51])
    have e1 : decide ((51 : Int) < (s.size : Int)) = true := by rw [decide_eq_true_iff]; omega
    clear hdl
    go_enter Tryz.func33, Tryz.ntmps33
    go_wp2_with fail
    go_ret
    exact ⟨by rw [F.out]; rfl, Below.refl _ _⟩
  · have F := Lib.hid (show Sp.check s.data.toList = if n = 0 then 1 else 0 by unfold Sp.check; rw [hdl, if_neg h51, hn])
    have e1 : decide ((51 : Int) < (s.size : Int)) = false := by rw [decide_eq_false_iff_not]; omega
    clear hdl hn
    by_cases h0 : n = 0
    · rw [if_pos h0] at F
      have b0 : ((n : Int) == 0) = true := by rw [h0]; rfl
      clear h0
      go_enter Tryz.func33, Tryz.ntmps33
      go_wp2_with (go_at_call 36; refine P.out.mono ?_; rintro e w1 ⟨A, cap, rfl, hb1⟩)
      go_ret
      exact ⟨by rw [F.out]; rfl, hb1⟩
    · rw [if_neg h0] at F
      have b0 : ((n : Int) == 0) = false := by rw [beq_eq_false_iff_ne]; omega
      clear h0
      go_enter Tryz.func33, Tryz.ntmps33
      go_wp2_with (go_at_call 36; refine P.out.mono ?_; rintro e w1 ⟨A, cap, rfl, hb1⟩)
      go_ret
      exact ⟨by rw [F.out]; rfl, hb1⟩
end Go.Proofs.YtmlkachfahabnaaGreatDoor
namespace Go.Proofs.YtmlkachfahabnaaGreatDoor
open Go.RowKit
namespace Sp
theorem less_cmp : ∀ (a b : Bs), Op.bytesLess a b = true ↔ Lib.compareBytes a b = -1
  | [], [] => by simp [Op.bytesLess, Lib.compareBytes]
  | [], _ :: _ => by simp [Op.bytesLess, Lib.compareBytes]
  | _ :: _, [] => by simp [Op.bytesLess, Lib.compareBytes]
  | a :: l, b :: m => by
    have ih := less_cmp l m
    unfold Op.bytesLess Lib.compareBytes
    by_cases h1 : a < b
    · simp [h1]
    · by_cases h2 : b < a
      · have : ¬ a = b := by rintro rfl; exact h1 h2
        simp [h1, h2, this]
      · have : a = b := UInt8.le_antisymm (UInt8.not_lt.1 h2) (UInt8.not_lt.1 h1)
        subst this
        simp [ih]
theorem cmp_swap : ∀ (a b : Bs), Lib.compareBytes a b = - Lib.compareBytes b a
  | [], [] => by simp [Lib.compareBytes]
  | [], _ :: _ => by simp [Lib.compareBytes]
  | _ :: _, [] => by simp [Lib.compareBytes]
  | a :: l, b :: m => by
    have ih := cmp_swap l m
    unfold Lib.compareBytes
    by_cases h1 : a < b
    · have h2 : ¬ b < a := fun h => UInt8.lt_asymm h1 h
      simp [h1, h2]
    · by_cases h2 : b < a
      · simp [h1, h2]
      · simp [h1, h2, ih]
/-- A rising list with what stands at a path now. -/
def setE : List PE → List Bs → List Ver → List PE
  | [], ps, l => if l = [] then [] else [(ps, l)]
  | (q, m) :: r, ps, l => if q = ps then (if l = [] then r else (ps, l) :: r)
    else if cmpP ps q < 0 then (if l = [] then (q, m) :: r else (ps, l) :: (q, m) :: r) else (q, m) :: setE r ps l
theorem entriesL_ne : ∀ (k : List (Bs × T)), ∀ e ∈ entriesL k, ∃ n q, e.1 = n :: q ∧ n ∈ k.map (·.1)
  | [], e, h => by cases h
  | (n, t) :: r, e, h => by
    rw [entriesL] at h
    rcases List.mem_append.1 h with h | h
    · obtain ⟨x, _, rfl⟩ := List.mem_map.1 h
      exact ⟨n, x.1, rfl, by simp⟩
    · obtain ⟨m, q, h1, h2⟩ := entriesL_ne r e h
      exact ⟨m, q, h1, by simp only [List.map_cons, List.mem_cons]; exact .inr h2⟩
theorem setE_map (p : Bs) (ps : List Bs) (l : List Ver) (R : List PE) (hR : ∀ e ∈ R, ∃ n q, e.1 = n :: q ∧ Op.bytesLess p n = true) : ∀ (E : List PE),
    setE (E.map (fun e => (p :: e.1, e.2)) ++ R) (p :: ps) l = (setE E ps l).map (fun e => (p :: e.1, e.2)) ++ R
  | [] => by
    cases R with
    | nil => simp only [List.map_nil, List.append_nil, setE]; split <;> simp
    | cons e r =>
      obtain ⟨n, q, h1, h2⟩ := hR e (List.mem_cons_self ..)
      obtain ⟨e1, e2⟩ := e
      cases h1
      have hne : ¬ n = p := by rintro rfl; rw [less_cmp, (cmpB_eq n n).2 rfl] at h2; cases h2
      have hc : cmpP (p :: ps) (n :: q) = -1 := by rw [cmpP, if_neg (fun h => hne h.symm)]; exact (less_cmp p n).1 h2
      simp only [List.map_nil, List.nil_append, setE]
      rw [if_neg (by simp [hne]), if_pos (by rw [hc]; decide)]
      split <;> simp
  | (q, m) :: r => by
    have ih := setE_map p ps l R hR r
    simp only [List.map_cons, List.cons_append, setE]
    have hc : cmpP (p :: ps) (p :: q) = cmpP ps q := by rw [cmpP, if_pos rfl]
    by_cases h1 : q = ps
    · subst h1
      rw [if_pos rfl, if_pos rfl]
      split <;> simp
    · rw [if_neg (by simp [h1]), if_neg h1, hc]
      split
      · split <;> simp
      · rw [ih]; simp
theorem setE_skip (p m : Bs) (ps : List Bs) (l : List Ver) (R : List PE) (hm : Op.bytesLess m p = true) : ∀ (E : List PE),
    setE (E.map (fun e => (m :: e.1, e.2)) ++ R) (p :: ps) l = E.map (fun e => (m :: e.1, e.2)) ++ setE R (p :: ps) l
  | [] => rfl
  | (q, v) :: r => by
    have ih := setE_skip p m ps l R hm r
    have hne : ¬ m = p := by rintro rfl; rw [less_cmp, (cmpB_eq m m).2 rfl] at hm; cases hm
    have hc : cmpP (p :: ps) (m :: q) = 1 := by rw [cmpP, if_neg (fun h => hne h.symm), cmp_swap, (less_cmp m p).1 hm]; rfl
    simp only [List.map_cons, List.cons_append, setE]
    rw [if_neg (by simp [hne]), if_neg (by rw [hc]; decide), ih]
theorem less_trans {a b c : Bs} (h1 : Op.bytesLess a b = true) (h2 : Op.bytesLess b c = true) : Op.bytesLess a c = true := by
  induction a generalizing b c with
  | nil => cases b with
    | nil => simp [Op.bytesLess] at h1
    | cons y b => cases c with
      | nil => simp [Op.bytesLess] at h2
      | cons z c => simp [Op.bytesLess]
  | cons x a ih => cases b with
    | nil => simp [Op.bytesLess] at h1
    | cons y b => cases c with
      | nil => simp [Op.bytesLess] at h2
      | cons z c =>
        simp only [Op.bytesLess, Bool.or_eq_true, decide_eq_true_eq, Bool.and_eq_true, beq_iff_eq] at *
        rcases h1 with h1 | ⟨rfl, h1⟩
        · rcases h2 with h2 | ⟨rfl, h2⟩
          · exact .inl (UInt8.lt_trans h1 h2)
          · exact .inl h1
        · rcases h2 with h2 | ⟨rfl, h2⟩
          · exact .inl h2
          · exact .inr ⟨rfl, ih h1 h2⟩
theorem less_irr (a : Bs) : Op.bytesLess a a = false := by
  rw [Bool.eq_false_iff]; intro h; rw [less_cmp, (cmpB_eq a a).2 rfl] at h; cases h
theorem less_other {a b : Bs} (h1 : ¬ a = b) (h2 : ¬ Op.bytesLess a b = true) : Op.bytesLess b a = true := by
  rw [less_cmp] at *
  rcases cmpB_range a b with h | h | h
  · exact absurd h h2
  · exact absurd ((cmpB_eq a b).1 h) h1
  · rw [cmp_swap, h]
def Rise (k : List (Bs × T)) : Prop := (k.map (·.1)).Pairwise (fun a b => Op.bytesLess a b = true)
theorem kid_none (k : List (Bs × T)) (p : Bs) (h : ∀ n ∈ k.map (·.1), Op.bytesLess p n = true) : kid k p = none := by
  induction k with
  | nil => rfl
  | cons x r ih =>
    obtain ⟨m, t⟩ := x
    have hm := h m (by simp)
    have hne : ¬ m = p := by rintro rfl; rw [less_irr] at hm; cases hm
    rw [kid, if_neg hne]
    exact ih (fun n hn => h n (by simp only [List.map_cons, List.mem_cons]; exact .inr hn))
theorem upd_entries (p : Bs) (ps : List Bs) (l : List Ver) : ∀ (k : List (Bs × T)), Rise k → OkL k → (o : Option T) → entriesO o = setE (entriesO (kid k p)) ps l → entriesL (upd k p o) = setE (entriesL k) (p :: ps) l
  | [], _, _, o, ho => by
    rw [show entriesO (kid [] p) = [] from rfl] at ho
    cases o with
    | none =>
      rw [show entriesO none = [] from rfl, setE] at ho
      rw [upd, putO, entriesL, setE]
      by_cases hl : l = []
      · rw [if_pos hl]
      · rw [if_neg hl] at ho; cases ho
    | some t =>
      rw [show entriesO (some t) = entries t from rfl, setE] at ho
      rw [upd, putO, show entriesL [(p, t)] = (entries t).map (fun e => (p :: e.1, e.2)) ++ [] from by rw [entriesL, entriesL], ho, entriesL, setE]
      split <;> simp
  | (m, s) :: r, hr, hk, o, ho => by
    obtain ⟨hr1, hr2⟩ := List.pairwise_cons.1 hr
    rw [OkL] at hk
    obtain ⟨_, hs, _, hk'⟩ := hk
    have hR : ∀ q, (∀ n ∈ r.map (·.1), Op.bytesLess q n = true) → ∀ e ∈ entriesL r, ∃ n x, e.1 = n :: x ∧ Op.bytesLess q n = true := fun q hq e he => by
      obtain ⟨n, x, h1, h2⟩ := entriesL_ne r e he
      exact ⟨n, x, h1, hq n h2⟩
    by_cases h1 : m = p
    · subst h1
      rw [show kid ((m, s) :: r) m = some s by rw [kid, if_pos rfl]] at ho
      rw [entriesL, setE_map m ps l _ (hR m hr1), upd, if_pos rfl]
      rw [show entriesO (some s) = entries s from rfl] at ho
      rw [← ho]
      cases o with
      | none => rfl
      | some t => rfl
    · rw [show kid ((m, s) :: r) p = kid r p by rw [kid, if_neg h1]] at ho
      by_cases h2 : Op.bytesLess m p = true
      · rw [upd, if_neg h1, if_pos h2, entriesL, entriesL, setE_skip p m ps l _ h2, upd_entries p ps l r hr2 hk' o ho]
      · have h3 := less_other h1 h2
        have hn : kid r p = none := kid_none r p (fun n hn => less_trans h3 (hr1 n hn))
        rw [hn, show entriesO none = [] from rfl] at ho
        rw [upd, if_neg h1, if_neg h2]
        have hR2 : ∀ e ∈ entriesL ((m, s) :: r), ∃ n x, e.1 = n :: x ∧ Op.bytesLess p n = true := fun e he => by
          obtain ⟨n, x, h1, h2⟩ := entriesL_ne _ e he
          refine ⟨n, x, h1, ?_⟩
          rcases List.mem_cons.1 h2 with rfl | h2
          · exact h3
          · exact less_trans h3 (hr1 n h2)
        have hM := setE_map p ps l (entriesL ((m, s) :: r)) hR2 []
        rw [List.map_nil, List.nil_append, ← ho] at hM
        rw [hM]
        cases o with
        | none => rfl
        | some t => rfl
theorem setE_root (l : List Ver) (k : List (Bs × T)) (leaf : List Ver) : setE ((if leaf = [] then [] else [([], leaf)]) ++ entriesL k) [] l = (if l = [] then [] else [([], l)]) ++ entriesL k := by
  by_cases h : leaf = []
  · rw [if_pos h, List.nil_append]
    cases hE : entriesL k with
    | nil => rw [setE, List.append_nil]
    | cons e r =>
      obtain ⟨n, q, h1, _⟩ := entriesL_ne k e (by rw [hE]; exact List.mem_cons_self ..)
      obtain ⟨e1, e2⟩ := e
      cases h1
      rw [setE, if_neg (by simp), if_pos (by rw [cmpP]; decide)]
      split <;> simp
  · rw [if_neg h, List.cons_append, List.nil_append, setE, if_pos rfl]
    split <;> simp
theorem setE_below (p : Bs) (ps : List Bs) (l leaf : List Ver) (E : List PE) : setE ((if leaf = [] then [] else [([], leaf)]) ++ E) (p :: ps) l = (if leaf = [] then [] else [([], leaf)]) ++ setE E (p :: ps) l := by
  split
  · rfl
  · rw [List.cons_append, List.nil_append, setE, if_neg (by simp), if_neg (by rw [cmpP]; decide)]
    rfl
theorem kept_entries (leaf : List Ver) (k : List (Bs × T)) : entriesO (kept leaf k) = (if leaf = [] then [] else [([], leaf)]) ++ entriesL k := by
  unfold kept
  split
  · rename_i h; rw [h.1, h.2]; rfl
  · rw [entriesO, entries]
theorem kid_ok : ∀ (k : List (Bs × T)) (p : Bs) (t : T), OkL k → kid k p = some t → Ok t
  | [], _, _, _, h => by cases h
  | (m, s) :: r, p, t, hk, h => by
    rw [OkL] at hk
    rw [kid] at h
    split at h
    · cases h; exact hk.2.2.1
    · exact kid_ok r p t hk.2.2.2 h
/-- What is put at a path of a tree is what is put at the path of its entries. -/
theorem with_entries : ∀ (ps : List Bs) (l : List Ver) (x : Option T), (∀ t, x = some t → Ok t) → entriesO (withO x ps l) = setE (entriesO x) ps l
  | [], l, x, _ => by
    rw [withO, kept_entries]
    cases x with
    | none => rw [show entriesO none = (if ([] : List Ver) = [] then [] else [([], [])]) ++ entriesL [] from rfl, setE_root]; rfl
    | some t => cases t with
      | mk leaf k => rw [show entriesO (some (T.mk leaf k)) = entries (.mk leaf k) from rfl, entries, setE_root]; rfl
  | p :: ps, l, x, hx => by
    rw [withO, kept_entries]
    cases x with
    | none =>
      have ih := with_entries ps l none (by intro t h; cases h)
      rw [show entriesO none = (if ([] : List Ver) = [] then [] else [([], [])]) ++ entriesL [] from rfl, setE_below]
      congr 1
      exact upd_entries p ps l [] List.Pairwise.nil trivial _ ih
    | some t => cases t with
      | mk leaf k =>
        have ho := hx _ rfl
        rw [Ok] at ho
        have ih := with_entries ps l (kid k p) (fun t h => kid_ok k p t ho.2.2 h)
        rw [show entriesO (some (T.mk leaf k)) = entries (.mk leaf k) from rfl, entries, setE_below]
        congr 1
        exact upd_entries p ps l k ho.2.1 ho.2.2 _ ih
end Sp
end Go.Proofs.YtmlkachfahabnaaGreatDoor
namespace Go.Proofs.YtmlkachfahabnaaGreatDoor
open Go.RowKit
namespace Sp
theorem upd_ok (p : Bs) (o : Option T) (ho : ∀ t, o = some t → name p = true ∧ entries t ≠ [] ∧ Ok t) : ∀ (k : List (Bs × T)), Rise k → OkL k → Rise (upd k p o) ∧ OkL (upd k p o) ∧ ∀ n ∈ (upd k p o).map (·.1), n = p ∨ n ∈ k.map (·.1)
  | [], _, _ => by
    cases o with
    | none => exact ⟨List.Pairwise.nil, trivial, fun n h => by cases h⟩
    | some t =>
      obtain ⟨h1, h2, h3⟩ := ho t rfl
      exact ⟨List.pairwise_singleton _ _, ⟨h1, h2, h3, trivial⟩, fun n h => by simpa [upd, putO] using h⟩
  | (m, s) :: r, hr, hk => by
    obtain ⟨hr1, hr2⟩ := List.pairwise_cons.1 hr
    have hk0 := hk
    rw [OkL] at hk
    obtain ⟨hm, hs, hso, hk'⟩ := hk
    rw [upd]
    by_cases h1 : m = p
    · subst h1
      rw [if_pos rfl]
      cases o with
      | none => exact ⟨hr2, hk', fun n h => .inr (by simp only [List.map_cons, List.mem_cons]; exact .inr h)⟩
      | some t =>
        obtain ⟨a1, a2, a3⟩ := ho t rfl
        exact ⟨List.pairwise_cons.2 ⟨hr1, hr2⟩, ⟨a1, a2, a3, hk'⟩, fun n h => by simpa [putO] using h⟩
    · rw [if_neg h1]
      by_cases h2 : Op.bytesLess m p = true
      · rw [if_pos h2]
        obtain ⟨i1, i2, i3⟩ := upd_ok p o ho r hr2 hk'
        refine ⟨List.pairwise_cons.2 ⟨fun n hn => ?_, i1⟩, ⟨hm, hs, hso, i2⟩, fun n hn => ?_⟩
        · rcases i3 n hn with rfl | h
          · exact h2
          · exact hr1 n h
        · rcases List.mem_cons.1 hn with rfl | hn
          · exact .inr (by simp)
          · rcases i3 n hn with h | h
            · exact .inl h
            · exact .inr (by simp only [List.map_cons, List.mem_cons]; exact .inr h)
      · rw [if_neg h2]
        have h3 := less_other h1 h2
        cases o with
        | none => exact ⟨hr, hk0, fun n h => .inr h⟩
        | some t =>
          obtain ⟨a1, a2, a3⟩ := ho t rfl
          refine ⟨List.pairwise_cons.2 ⟨fun n hn => ?_, hr⟩, ⟨a1, a2, a3, hk0⟩, fun n h => by simpa [putO] using h⟩
          rcases List.mem_cons.1 hn with rfl | hn
          · exact h3
          · exact less_trans h3 (hr1 n hn)
theorem entries_some {leaf : List Ver} {k : List (Bs × T)} (hk : OkL k) (h : ¬ (leaf = [] ∧ k = [])) : entries (.mk leaf k) ≠ [] := by
  rw [entries]
  intro e
  rw [List.append_eq_nil_iff] at e
  obtain ⟨e1, e2⟩ := e
  split at e1
  · rename_i hl
    cases k with
    | nil => exact h ⟨hl, rfl⟩
    | cons x r =>
      obtain ⟨n, t⟩ := x
      rw [OkL] at hk
      rw [entriesL, List.append_eq_nil_iff, List.map_eq_nil_iff] at e2
      exact hk.2.1 e2.1
  · cases e1
theorem kept_ok {leaf : List Ver} {k : List (Bs × T)} (hl : leaf ≠ [] → Sp.leaf leaf = 0) (hr : Rise k) (hk : OkL k) : ∀ t, kept leaf k = some t → entries t ≠ [] ∧ Ok t := by
  intro t h
  unfold kept at h
  split at h
  · cases h
  · rename_i hn
    cases h
    exact ⟨entries_some hk hn, by rw [Ok]; exact ⟨hl, hr, hk⟩⟩
theorem with_ok (l : List Ver) (hl : l ≠ [] → Sp.leaf l = 0) : ∀ (ps : List Bs) (x : Option T), (∀ n ∈ ps, name n = true) → (∀ t, x = some t → Ok t) → ∀ t, withO x ps l = some t → entries t ≠ [] ∧ Ok t
  | [], x, _, hx => by
    rw [withO]
    cases x with
    | none => exact kept_ok hl List.Pairwise.nil trivial
    | some t => cases t with
      | mk leaf k =>
        have ho := hx _ rfl
        rw [Ok] at ho
        exact kept_ok hl ho.2.1 ho.2.2
  | p :: ps, x, hn, hx => by
    rw [withO]
    have hps : ∀ n ∈ ps, name n = true := fun n h => hn n (List.mem_cons_of_mem _ h)
    cases x with
    | none =>
      have ih := with_ok l hl ps none hps (by intro t h; cases h)
      obtain ⟨u1, u2, _⟩ := upd_ok p (withO none ps l) (fun t h => ⟨hn p (List.mem_cons_self ..), ih t h⟩) [] List.Pairwise.nil trivial
      exact kept_ok (fun h => absurd rfl h) u1 u2
    | some t => cases t with
      | mk leaf k =>
        have ho := hx _ rfl
        rw [Ok] at ho
        have ih := with_ok l hl ps (kid k p) hps (fun t h => kid_ok k p t ho.2.2 h)
        obtain ⟨u1, u2, _⟩ := upd_ok p (withO (kid k p) ps l) (fun t h => ⟨hn p (List.mem_cons_self ..), ih t h⟩) k ho.2.1 ho.2.2
        exact kept_ok ho.1 u1 u2
end Sp
end Go.Proofs.YtmlkachfahabnaaGreatDoor
