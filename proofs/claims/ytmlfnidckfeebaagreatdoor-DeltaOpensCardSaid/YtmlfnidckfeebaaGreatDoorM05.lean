/- Nodes: plain. A region that draws its order, each of whose operations tells one value in every world of a kind, and stays within it: calls too. Walked once, in the text's order. After the library's law for regions that only read. -/
import Derived.Laws.Cover1
import Derived.Test.YtmlfnidckfeebaaGreatDoorM04
import Derived.StillTail
import Derived.KernelRfl
import Derived.Test.YtmlfnidckfeebaaGreatDoorM01
namespace Go.Proofs.YtmlfnidckfeebaaGreatDoor
open Go.RowKit
namespace Sp
abbrev Kid := Bs × Bs
abbrev Node := List Ver × List Kid
def le (a b : Bs) : Bool := Op.bytesLess a b || a == b
def kgo : Option Bs → List Kid → Int
  | _, [] => 0
  | p, k :: r => if name k.1 = false then 1 else if p.any (le k.1) = true then 8 else kgo (some k.1) r
def kcheck (l : List Kid) : Int := if 128 < l.length then 2 else kgo none l
def ncheck (n : Node) : Int := if leaf n.1 ≠ 0 then leaf n.1 else kcheck n.2
/-- The name ahead of a place. -/
def pv (l : List Kid) (k : Nat) : Option Bs := if k = 0 then none else (l[k - 1]?).map (·.1)
theorem kgo_step (l : List Kid) (k : Nat) (h : k < l.length) : kgo (pv l k) (l.drop k) = if name l[k].1 = false then 1 else if (pv l k).any (le l[k].1) = true then 8 else kgo (pv l (k + 1)) (l.drop (k + 1)) := by
  have e : pv l (k + 1) = some l[k].1 := by simp [pv, h]
  rw [List.drop_eq_getElem_cons h, kgo, e]
def wkid (k : Kid) (x : W) : W := wdigest k.2 (wtext k.1 x)
def wkids (l : List Kid) (x : W) : W := l.foldl (fun x k => wkid k x) x
def wnode (n : Node) : W := wkids n.2 (wnum n.2.length (wleaf n.1 ([], 0)))
def nbytes (n : Node) : W := if ncheck n ≠ 0 then ([], ncheck n) else wdone (wnode n)
def nsum (n : Node) : Bs := if (nbytes n).2 ≠ 0 then List.replicate 32 0 else sha (nbytes n).1
theorem nsum_len (n : Node) : (nsum n).length = 32 := by
  unfold nsum; split
  · simp
  · exact sha_len _
theorem wkids_snoc (l : List Kid) (k : Kid) (x : W) : wkids (l ++ [k]) x = wkid k (wkids l x) := by simp [wkids]
theorem wkid_len (k : Kid) (x : W) : (wkid k x).1.length ≤ x.1.length + k.1.length + k.2.length + 20 := by
  have h1 := wput_len true k.2 (wtext k.1 x)
  have h2 := wtext_len k.1 x
  unfold wkid wdigest
  omega
theorem wkids_len (m n : Nat) : ∀ (l : List Kid) (x : W), (∀ k ∈ l, k.1.length ≤ m ∧ k.2.length ≤ n) → (wkids l x).1.length ≤ x.1.length + l.length * (m + n + 20)
  | [], x, _ => by simp [wkids]
  | k :: r, x, h => by
    have h1 := wkids_len m n r (wkid k x) (fun j hj => h j (List.mem_cons_of_mem _ hj))
    have h2 := wkid_len k x
    have h3 := h k (List.mem_cons_self ..)
    rw [show wkids (k :: r) x = wkids r (wkid k x) from rfl, List.length_cons, Nat.succ_mul]
    omega
/-- A writer that has failed stays what it is. -/
theorem wput_stop (b : Bool) (s : Bs) (x : W) (h : x.2 ≠ 0) : wput b s x = x := if_pos h
theorem wvers_stop : ∀ (l : List Ver) (x : W), x.2 ≠ 0 → wvers l x = x
  | [], _, _ => rfl
  | v :: r, x, h => by
    have hd : ∀ (d : List Dot), wdots d x = x := by
      intro d; induction d with
      | nil => rfl
      | cons a t ih => show wdots t (wdot a x) = x; unfold wdot wnum; rw [wput_stop _ _ _ h, wput_stop _ _ _ h, ih]
    have hw : wvec v.past x = x := by
      unfold wvec wnum
      split
      · exact if_neg h
      · rw [wput_stop _ _ _ h, hd]
    have hv : wver v x = x := by
      unfold wver wtext wflag wdot wnum
      rw [wput_stop _ _ _ h, wput_stop _ _ _ h, hw, wput_stop _ _ _ h, wput_stop _ _ _ h]
    show wvers r (wver v x) = x
    rw [hv, wvers_stop r x h]
theorem wleaf_stop (l : List Ver) (x : W) (h : x.2 ≠ 0) : wleaf l x = x := by
  unfold wleaf
  split
  · exact if_neg h
  · unfold wnum; rw [wput_stop _ _ _ h, wvers_stop l x h]
theorem wkids_stop : ∀ (l : List Kid) (x : W), x.2 ≠ 0 → wkids l x = x
  | [], _, _ => rfl
  | k :: r, x, h => by
    show wkids r (wkid k x) = x
    unfold wkid wdigest wtext
    rw [wput_stop _ _ _ h, wput_stop _ _ _ h, wkids_stop r x h]
/-- What the document writes. -/
def rnode (n : Node) : W := wkids n.2 (wnum n.2.length (wleaf n.1 (wfail (ncheck n) ([], 0))))
theorem rnode_ok (n : Node) : wdone (rnode n) = nbytes n := by
  unfold rnode nbytes
  by_cases h : ncheck n = 0
  · rw [if_neg (by simpa using h), h]; rfl
  · have e : wfail (ncheck n) ([], 0) = ([], ncheck n) := rfl
    rw [if_pos h, e, wleaf_stop _ _ h]
    unfold wnum
    rw [wput_stop _ _ _ h, wkids_stop _ _ h]
    exact if_neg h
theorem wput_some (b : Bool) (s : Bs) (x : W) (h : x.2 = 0 → x.1 ≠ []) : (wput b s x).2 = 0 → (wput b s x).1 ≠ [] := by
  unfold wput
  split
  · rename_i h2; intro h3; exact absurd h3 h2
  · rename_i h2
    have := h (by simpa using h2)
    split
    · intro _; simp [this]
    · intro h3; cases h3
theorem wkids_some : ∀ (l : List Kid) (x : W), (x.2 = 0 → x.1 ≠ []) → (wkids l x).2 = 0 → (wkids l x).1 ≠ []
  | [], _, h => h
  | k :: r, x, h => wkids_some r (wkid k x) (wput_some _ _ _ (wput_some _ _ _ h))
theorem wnum_some (n : Int) (x : W) : (wnum n x).2 = 0 → (wnum n x).1 ≠ [] := by
  unfold wnum wput
  split
  · rename_i h2; intro h3; exact absurd h3 h2
  · split
    · rename_i hd
      have h5 := put_ne.2 (of_decide_eq_true hd)
      intro _; simp [h5]
    · intro h3; cases h3
theorem wnode_some (n : Node) : (wnode n).2 = 0 → (wnode n).1 ≠ [] := wkids_some _ _ (wnum_some _ _)
theorem ncheck_ok {n : Node} (h : ncheck n = 0) : leaf n.1 = 0 ∧ n.2.length ≤ 128 ∧ kgo none n.2 = 0 := by
  unfold ncheck at h
  split at h
  · rename_i h2; exact absurd h h2
  · rename_i h2
    unfold kcheck at h
    split at h
    · cases h
    · exact ⟨by simpa using h2, by omega, h⟩
end Sp
/-- A kid's cells. -/
def kidL (k : Sp.Kid) : List Value := .string (strOf k.1) :: k.2.map byteV
def kidsC : List Sp.Kid → List Value
  | [] => []
  | k :: r => kidL k ++ kidsC r
def KidsOk (l : List Sp.Kid) : Prop := ∀ k ∈ l, k.2.length = 32 ∧ k.1.length ≤ 1000000
theorem kidL_len (k : Sp.Kid) (h : k.2.length = 32) : (kidL k).length = 33 := by simp [kidL, h]
theorem kidsC_len : ∀ (l : List Sp.Kid), KidsOk l → (kidsC l).length = l.length * 33
  | [], _ => rfl
  | k :: r, h => by
    rw [kidsC, List.length_append, kidL_len k (h k (List.mem_cons_self ..)).1, kidsC_len r (fun j hj => h j (List.mem_cons_of_mem _ hj)), List.length_cons]; omega
theorem kidsC_append (l m : List Sp.Kid) : kidsC (l ++ m) = kidsC l ++ kidsC m := by
  induction l with
  | nil => rfl
  | cons k r ih => rw [List.cons_append, kidsC, ih, kidsC, List.append_assoc]
theorem kidsC_get (l : List Sp.Kid) (k : Nat) (hk : k < l.length) (h : KidsOk l) (j : Nat) (v : Value) (hv : (kidL l[k])[j]? = some v) : (kidsC l)[k * 33 + j]? = some v := by
  have e : l = l.take k ++ l[k] :: l.drop (k + 1) := by rw [← List.drop_eq_getElem_cons hk, List.take_append_drop]
  have ht : (kidsC (l.take k)).length = k * 33 := by
    rw [kidsC_len _ (fun x hx => h x (List.mem_of_mem_take hx)), List.length_take, Nat.min_eq_left (Nat.le_of_lt hk)]
  have hj : j < (kidL l[k]).length := by
    rcases Nat.lt_or_ge j (kidL l[k]).length with h | h
    · exact h
    · rw [List.getElem?_eq_none h] at hv; cases hv
  have e2 : kidsC l = kidsC (l.take k) ++ (kidL l[k] ++ kidsC (l.drop (k + 1))) := by
    rw [← kidsC, ← kidsC_append, ← e]
  rw [e2, List.getElem?_append_right (by omega), ht, show k * 33 + j - k * 33 = j by omega, List.getElem?_append_left hj]
  exact hv
def Kids (w : World) (A : Option Addr) (l : List Sp.Kid) : Prop := Cells w A (kidsC l) ∧ KidsOk l
theorem Kids.ext {w w' : World} {A : Option Addr} {l : List Sp.Kid} (h : Kids w A l) (e : Ext w w') : Kids w' A l := ⟨h.1.ext e, h.2⟩
theorem Kids.nil (w : World) (A : Option Addr) : Kids w A [] := ⟨Cells.nil _ _, fun _ h => by cases h⟩
theorem Kids.at {w : World} {A : Option Addr} {l : List Sp.Kid} (h : Kids w A l) (hn : 0 < l.length) : ∃ g o, A = some ⟨g, o, none⟩ ∧ ∀ k (h : k < l.length), w.rangeAt g (o + k * 33) (kidL l[k]) := by
  obtain ⟨g, o, hA, hc⟩ := h.1 (by
    intro e
    have := kidsC_len l h.2
    rw [e] at this
    simp at this
    omega)
  refine ⟨g, o, hA, fun k hk j v hv => ?_⟩
  rw [Nat.add_assoc]
  exact hc _ _ (kidsC_get l k hk h.2 j v hv)
/-- The name's cell of a kid. -/
theorem kid_name {w : World} {g o : Nat} {k : Sp.Kid} (h : w.rangeAt g o (kidL k)) : w.cell? ⟨g, o, none⟩ = some (.string (strOf k.1)) := h 0 _ rfl
end Go.Proofs.YtmlfnidckfeebaaGreatDoor
namespace Go.Proofs.YtmlfnidckfeebaaGreatDoor
section
variable {P : Program} {ops : Array Oper} {md : Region.Mode} {S : World → Prop}

/-- What an operation comes to: v, in a world of the kind S. -/
def yUpon (P : Program) (S : World → Prop) (v : Value) : Result Next → Prop
  | .ok (.value u) w' => u = v ∧ S w'
  | .ok .skip w' => v = undef ∧ S w'
  | .ok (.enter f args) w' => Calls P f args w' (fun e w'' => e = .returned v ∧ S w'')
  | _ => False

def YieldsS (P : Program) (ops : Array Oper) (S : World → Prop) (o : Oper) (v : Value) (a : Act) : Prop :=
  (Region.wanted o (yielded ops a.tmps) = true ∧ ∀ w, S w → yUpon P S v ((execOp a.eval o).run P w)) ∨ (Region.wanted o (yielded ops a.tmps) = false ∧ v = undef)

theorem YieldsS.of_same {o : Oper} {v : Value} {a a' : Act} (hy : YieldsS P ops S o v a) (he : execOp a'.eval o = execOp a.eval o)
    (hw : Region.wanted o (yielded ops a'.tmps) = Region.wanted o (yielded ops a.tmps)) : YieldsS P ops S o v a' := by
  unfold YieldsS at *
  rw [he, hw]
  exact hy

def dOp (P : Program) (ops : Array Oper) (S : World → Prop) (i : Nat) (K : Act → Prop) (a : Act) : Prop :=
  match ops[i]? with
  | none => K a
  | some o => ∃ v, YieldsS P ops S o v a ∧ K (a.put o.dst v)

theorem dOp_mono {i : Nat} {a : Act} {K K' : Act → Prop} (h : ∀ a, K a → K' a) (hh : dOp P ops S i K a) : dOp P ops S i K' a := by
  unfold dOp at *
  split
  · rename_i ho; simp only [ho] at hh; exact h _ hh
  · rename_i o ho
    simp only [ho] at hh
    obtain ⟨v, hy, hk⟩ := hh
    exact ⟨v, hy, h _ hk⟩

theorem wpOp_of_dOp {i : Nat} {a : Act} {w : World} {K : Act → Prop} {K' : Act → World → Prop} {Q' : Exit → Act → World → Prop} (hS : S w) (h : ∀ a w, K a → S w → K' a w) (hh : dOp P ops S i K a) : wpOp P ops Q' i K' a w := by
  unfold dOp at hh
  unfold wpOp
  split
  · rename_i ho; simp only [ho] at hh; exact h _ _ hh hS
  · rename_i o ho
    simp only [ho] at hh
    obtain ⟨v, hy, hk⟩ := hh
    rcases hy with ⟨hw, hv⟩ | ⟨hw, rfl⟩
    · simp only [hw, if_true]
      refine .inl ?_
      have hu := hv w hS
      unfold Oper.wp
      generalize (execOp a.eval o).run P w = r at *
      cases r with
      | ok n w' =>
        cases n <;> simp only [yUpon] at hu <;> simp only [Oper.upon]
        case value u => obtain ⟨rfl, h2⟩ := hu; exact h _ _ hk h2
        case skip => obtain ⟨rfl, h2⟩ := hu; exact h _ _ hk h2
        case enter f args => exact hu.mono fun e w'' ⟨he, hw⟩ => by subst he; exact h _ _ hk hw
      | halt x w' => simp only [yUpon] at hu
    · simp only [hw, Bool.false_eq_true, if_false]; exact h _ _ hk hS

theorem dOp_put {j : Nat} {oi oj : Oper} {v : Value} (hj : ops[j]? = some oj) (hap : oi.apart ops oj = true)
    (hsi : ∀ cs b, oi.op ≠ .select cs b) (hsj : ∀ cs b, oj.op ≠ .select cs b) {K : Act → Prop} {a : Act}
    (hy : YieldsS P ops S oi v a) (h : dOp P ops S j K (a.put oi.dst v)) :
    dOp P ops S j (fun a' => YieldsS P ops S oi v a' ∧ K (a'.put oi.dst v)) a := by
  obtain ⟨h1, h2, h3⟩ := Oper.apart_spec hap
  unfold dOp at *
  simp only [hj] at *
  obtain ⟨u, hu, hk⟩ := h
  exact ⟨u, hu.of_same (execOp_put oj hsj a oi.dst v h1).symm (wanted_put oj a oi.dst v h1).symm, hy.of_same (execOp_put oi hsi a oj.dst u h3) (wanted_put oi a oj.dst u h3), by rw [← Act.put_comm a v u h2]; exact hk⟩

/-- In the text's order. -/
def wpDet (P : Program) (ops : Array Oper) (S : World → Prop) (Q : Act → Prop) : List Oper → Act → Prop
  | [], a => Q a
  | o :: rest, a => ∃ v, YieldsS P ops S o v a ∧ wpDet P ops S Q rest (a.put o.dst v)
theorem det_nil {Q : Act → Prop} {a : Act} (h : Q a) : wpDet P ops S Q [] a := h
/-- One step of the walk, with what follows kept out of sight. -/
theorem det_step {Q : Act → Prop} {a : Act} {o : Oper} {rest : List Oper} (h : ∀ K : Act → Prop, (∀ a, wpDet P ops S Q rest a → K a) → ∃ v, YieldsS P ops S o v a ∧ K (a.put o.dst v)) : wpDet P ops S Q (o :: rest) a :=
  h _ fun _ h => h
theorem det_no' {a : Act} {o : Oper} {K : Act → Prop} (hw : Region.wanted o (yielded ops a.tmps) = false) (h : K (a.put o.dst undef)) : ∃ v, YieldsS P ops S o v a ∧ K (a.put o.dst v) := ⟨undef, .inr ⟨hw, rfl⟩, h⟩
def wpAnyD (P : Program) (md : Region.Mode) (ops : Array Oper) (S : World → Prop) (Q : Act → Prop) : Nat → Array Bool → Act → Prop
  | 0, listed, a => Region.ready md ops listed = [] ∧ Q a
  | fuel + 1, listed, a =>
    (Region.ready md ops listed = [] → Q a) ∧
    ∀ i ∈ Region.ready md ops listed, dOp P ops S i (wpAnyD P md ops S Q fuel (listed.setIfInBounds i true)) a

theorem wpAny_of_det {Q : Act → Prop} {Q' : Exit → Act → World → Prop} (hQ : ∀ a w, Q a → S w → Q' .normal a w) : ∀ (fuel : Nat) (listed : Array Bool) (a : Act) (w : World), S w →
    wpAnyD P md ops S Q fuel listed a → wpAny P md ops Q' fuel listed a w
  | 0, _, _, _, hS, h => ⟨h.1, hQ _ _ h.2 hS⟩
  | fuel + 1, _, _, _, hS, h => ⟨fun h0 => hQ _ _ (h.1 h0) hS, fun i hi => wpOp_of_dOp hS (fun a' w' h' hS' => wpAny_of_det hQ fuel _ a' w' hS' h') (h.2 i hi)⟩

theorem YieldsS.dOp {i : Nat} {o : Oper} {v : Value} {a : Act} (hi : ops[i]? = some o) (hy : YieldsS P ops S o v a) {K : Act → Prop} (h : K (a.put o.dst v)) : dOp P ops S i K a := by
  unfold Go.Proofs.YtmlfnidckfeebaaGreatDoor.dOp
  simp only [hi]
  exact ⟨v, hy, h⟩

theorem wpAnyD_first {Q : Act → Prop} {i : Nat} {oi : Oper} {v : Value} (hi : ops[i]? = some oi) (hsel : ∀ (j : Nat) (o : Oper) cs b, ops[j]? = some o → o.op ≠ .select cs b) :
    ∀ (fuel : Nat) (listed : Array Bool) (a : Act),
      (∀ j oj, ops[j]? = some oj → j ≠ i → listed.getD j true = false → (∀ e ∈ oj.after, Region.binds md e = true → e.on ≠ i) → oi.apart ops oj = true) →
      i ∈ Region.ready md ops listed → YieldsS P ops S oi v a →
      wpAnyD P md ops S Q fuel (listed.setIfInBounds i true) (a.put oi.dst v) → wpAnyD P md ops S Q (fuel + 1) listed a := by
  intro fuel
  induction fuel with
  | zero =>
    intro listed a _ hr hy H
    refine ⟨fun h => (by rw [h] at hr; cases hr), fun j hj => ?_⟩
    by_cases hji : j = i
    · subst hji; exact hy.dOp hi H
    · have := ready_mono hj hji
      rw [H.1] at this
      cases this
  | succ fuel ih =>
    intro listed a hfree hr hy H
    refine ⟨fun h => (by rw [h] at hr; cases hr), fun j hj => ?_⟩
    by_cases hji : j = i
    · subst hji; exact hy.dOp hi H
    · have h1 := H.2 j (ready_mono hj hji)
      obtain ⟨hjun, oj, hoj, hall⟩ := mem_ready.1 hj
      have hnot : ∀ e ∈ oj.after, Region.binds md e = true → e.on ≠ i := fun e he hb heq => by
        have h1 := hall e he hb
        rw [heq, getD_both (mem_ready.1 hr).1] at h1
        cases h1
      have h2 := dOp_put hoj (hfree j oj hoj hji hjun hnot) (fun cs b => hsel i oi cs b hi) (fun cs b => hsel j oj cs b hoj) hy h1
      have hfree' : ∀ k ok, ops[k]? = some ok → k ≠ i → (listed.setIfInBounds j true).getD k true = false →
          (∀ e ∈ ok.after, Region.binds md e = true → e.on ≠ i) → oi.apart ops ok = true := fun k ok hk hki hun hno => by
        refine hfree k ok hk hki ?_ hno
        by_cases hjk : j = k
        · subst hjk; exact hjun
        · rw [getD_set_ne true hjk] at hun; exact hun
      refine dOp_mono (fun a' h3 => ih (listed.setIfInBounds j true) a' hfree' (ready_mono hr (Ne.symm hji)) h3.1 ?_) h2
      rw [Array.setIfInBounds_comm _ _ hji]
      exact h3.2

theorem wpAnyD_lex {Q : Act → Prop} (hs : Region.noSelect ops = true) : ∀ (l : List Oper) (k : Nat) (listed : Array Bool) (a : Act), (∀ j, l[j]? = ops[k + j]?) →
    Region.lexFrom md ops l.length k listed = true → wpDet P ops S Q l a → wpAnyD P md ops S Q l.length listed a
  | [], _, _, _, _, hB, h => ⟨by simpa [Region.lexFrom] using hB, h⟩
  | o :: l, k, listed, a, hl, hB, h => by
    have h0 : ops[k]? = some o := by simpa using (hl 0).symm
    simp only [List.length_cons, Region.lexFrom, Bool.and_eq_true] at hB
    obtain ⟨⟨hr, hf⟩, hB'⟩ := hB
    obtain ⟨v, hy, hK⟩ := h
    exact wpAnyD_first h0 (Region.noSelect_spec hs) l.length listed a (Region.free_spec h0 hf) (by simpa using hr) hy
      (wpAnyD_lex hs l (k + 1) _ _ (fun j => by have := hl (j + 1); simpa [Nat.add_assoc, Nat.add_comm 1 j] using this) hB' hK)

/-- A region all of whose operations tell one value in every world of the kind S. -/
theorem wp_region_det (S : World → Prop) {id : Nat} {Q : Exit → Act → World → Prop} {a : Act} {w : World} {l : List Oper} (hm : P.follows .mixedOrders = true) (hB : Region.lexB .any l.toArray = true)
    (hS : S w.drew) (h : wpDet P l.toArray S (fun a' => ∀ w', S w' → Q .normal a' w') l a) : (Code.region id l.toArray true).wp P Q a w := by
  simp only [Region.lexB, Bool.and_eq_true] at hB
  refine wp_region_any hm (wpAny_of_det (S := S) (Q := fun a' => ∀ w', S w' → Q .normal a' w') (fun a w h hS => h w hS) _ _ _ _ hS ?_)
  have := wpAnyD_lex (md := .any) hB.1 l 0 (Array.replicate l.toArray.size false) a (by simp) (by simpa using hB.2) h
  simpa using this

def wpAnyLD (P : Program) (md : Region.Mode) (ops : Array Oper) (S : World → Prop) (n : Nat) (L : Array Bool → Act → Prop) : Nat → Array Bool → Act → Prop
  | 0, listed, a => L listed a
  | f + 1, listed, a =>
    Region.ready md ops listed ≠ [] ∧ ∀ i ∈ Region.ready md ops listed, i < n ∧ dOp P ops S i (wpAnyLD P md ops S n L f (listed.setIfInBounds i true)) a
theorem wpAny_of_headD {n g : Nat} {L : Array Bool → Act → Prop} {Q' : Exit → Act → World → Prop} (hL : ∀ listed a w, L listed a → S w → wpAny P md ops Q' g listed a w) :
    ∀ (f : Nat) (listed : Array Bool) (a : Act) (w : World), S w → wpAnyLD P md ops S n L f listed a → wpAny P md ops Q' (f + g) listed a w
  | 0, listed, a, w, hS, h => by rw [Nat.zero_add]; exact hL _ _ _ h hS
  | f + 1, listed, a, w, hS, h => by
    rw [show f + 1 + g = (f + g) + 1 by omega]
    exact ⟨fun h0 => absurd h0 h.1, fun i hi => wpOp_of_dOp hS (fun a' w' h' hS' => wpAny_of_headD hL f _ a' w' hS' h') (h.2 i hi).2⟩
theorem wpAnyLD_first {n i : Nat} {oi : Oper} {v : Value} {L : Array Bool → Act → Prop} (hi : ops[i]? = some oi) (hsel : ∀ (j : Nat) (o : Oper) cs b, ops[j]? = some o → o.op ≠ .select cs b)
    (hwt : ∀ listed, HeadInv md ops n listed → ∀ i, i < n → listed.getD i true = false → ∀ t, n ≤ t → t ∉ Region.ready md ops listed) (hin : i < n)
    (hdone : ∀ listed a, L listed a → ∀ j ∈ Region.ready md ops listed, n ≤ j) :
    ∀ (f : Nat) (listed : Array Bool) (a : Act), HeadInv md ops n listed →
      (∀ j oj, ops[j]? = some oj → j ≠ i → listed.getD j true = false → (∀ e ∈ oj.after, Region.binds md e = true → e.on ≠ i) → oi.apart ops oj = true) →
      i ∈ Region.ready md ops listed → YieldsS P ops S oi v a →
      wpAnyLD P md ops S n L f (listed.setIfInBounds i true) (a.put oi.dst v) → wpAnyLD P md ops S n L (f + 1) listed a := by
  intro f
  induction f with
  | zero =>
    intro listed a inv _ hr hy H
    have hun := (mem_ready.1 hr).1
    refine ⟨fun h => (by rw [h] at hr; cases hr), fun j hj => ?_⟩
    have hjn : j < n := by
      rcases Nat.lt_or_ge j n with h | h
      · exact h
      · exact absurd hj (hwt _ inv i hin hun j h)
    refine ⟨hjn, ?_⟩
    by_cases hji : j = i
    · subst hji; exact hy.dOp hi H
    · have := hdone _ _ H j (ready_mono hj hji)
      omega
  | succ f ih =>
    intro listed a inv hfree hr hy H
    have hun := (mem_ready.1 hr).1
    refine ⟨fun h => (by rw [h] at hr; cases hr), fun j hj => ?_⟩
    have hjn : j < n := by
      rcases Nat.lt_or_ge j n with h | h
      · exact h
      · exact absurd hj (hwt _ inv i hin hun j h)
    refine ⟨hjn, ?_⟩
    by_cases hji : j = i
    · subst hji; exact hy.dOp hi H
    · have h1 := (H.2 j (ready_mono hj hji)).2
      obtain ⟨hjun, oj, hoj, hall⟩ := mem_ready.1 hj
      have hnot : ∀ e ∈ oj.after, Region.binds md e = true → e.on ≠ i := fun e he hb heq => by
        have h1 := hall e he hb
        rw [heq, getD_both hun] at h1
        cases h1
      have h2 := dOp_put hoj (hfree j oj hoj hji hjun hnot) (fun cs b => hsel i oi cs b hi) (fun cs b => hsel j oj cs b hoj) hy h1
      have hfree' : ∀ k ok, ops[k]? = some ok → k ≠ i → (listed.setIfInBounds j true).getD k true = false →
          (∀ e ∈ ok.after, Region.binds md e = true → e.on ≠ i) → oi.apart ops ok = true := fun k ok hk hki hun hno => by
        refine hfree k ok hk hki ?_ hno
        by_cases hjk : j = k
        · subst hjk; exact hjun
        · rw [getD_set_ne true hjk] at hun; exact hun
      refine dOp_mono (fun a' h3 => ih (listed.setIfInBounds j true) a' (inv.set hj hjn) hfree' (ready_mono hr (Ne.symm hji)) h3.1 ?_) h2
      rw [Array.setIfInBounds_comm _ _ hji]
      exact h3.2
/-- As the library's lexHead, with any test of what is behind. -/
def headB (md : Region.Mode) (ops : Array Oper) (B : Array Bool → Bool) : Nat → Nat → Array Bool → Bool
  | 0, _, listed => B listed
  | f + 1, k, listed => (Region.ready md ops listed).contains k && Region.free md ops listed k && headB md ops B f (k + 1) (listed.setIfInBounds k true)
theorem headB_eq (md : Region.Mode) (ops : Array Oper) (g : Nat) : ∀ (f k : Nat) (listed : Array Bool), headB md ops (Region.seqB md ops g (k + f)) f k listed = Region.lexHead md ops g f k listed
  | 0, k, listed => rfl
  | f + 1, k, listed => by
    have := headB_eq md ops g f (k + 1) (listed.setIfInBounds k true)
    rw [show k + 1 + f = k + (f + 1) by omega] at this
    simp only [headB, Region.lexHead, this]
theorem wpAnyLD_lex {n : Nat} {Lq : Act → Prop} {B : Array Bool → Bool} (hBr : ∀ listed, B listed = true → ∀ j ∈ Region.ready md ops listed, n ≤ j) (hsel : Region.noSelect ops = true)
    (hwt : ∀ listed, HeadInv md ops n listed → ∀ i, i < n → listed.getD i true = false → ∀ t, n ≤ t → t ∉ Region.ready md ops listed) :
    ∀ (l : List Oper) (k : Nat) (listed : Array Bool) (a : Act), (∀ j, j < l.length → l[j]? = ops[k + j]?) → k + l.length = n → HeadInv md ops n listed →
    headB md ops B l.length k listed = true → wpDet P ops S Lq l a →
    wpAnyLD P md ops S n (fun listed' a' => B listed' = true ∧ Lq a') l.length listed a
  | [], k, listed, a, _, hk, _, hB, h => by
    have : k = n := by simpa using hk
    subst this
    exact ⟨by simpa [headB] using hB, h⟩
  | o :: l, k, listed, a, hl, hk, inv, hB, h => by
    have h0 : ops[k]? = some o := by simpa using (hl 0 (by simp)).symm
    simp only [List.length_cons, headB, Bool.and_eq_true] at hB
    obtain ⟨⟨hr, hf⟩, hB'⟩ := hB
    have hkn : k < n := by simp only [List.length_cons] at hk; omega
    have hr' : k ∈ Region.ready md ops listed := by simpa using hr
    obtain ⟨v, hy, hK⟩ := h
    exact wpAnyLD_first h0 (Region.noSelect_spec hsel) hwt hkn (fun listed' a' hL => hBr _ hL.1) l.length listed a inv (Region.free_spec h0 hf) hr' hy
      (wpAnyLD_lex hBr hsel hwt l (k + 1) _ _ (fun j hj => by have := hl (j + 1) (by simp; omega); simpa [Nat.add_assoc, Nat.add_comm 1 j] using this) (by simp only [List.length_cons] at hk; omega) (inv.set hr' hkn) hB' hK)

/-- .. and a tail of operations that come up one behind the other. -/
theorem wp_region_det_tail (S : World → Prop) {id : Nat} {Q : Exit → Act → World → Prop} {a : Act} {w : World} {l : List Oper} (n : Nat) (hm : P.follows .mixedOrders = true) (hB : Region.lexTailB .any l.toArray n = true)
    (hS : S w.drew) (h : wpDet P l.toArray S (fun a' => ∀ w', S w' → wpList P l.toArray Q (l.drop n) a' w') (l.take n) a) : (Code.region id l.toArray true).wp P Q a w := by
  simp only [Region.lexTailB, Bool.and_eq_true, decide_eq_true_eq] at hB
  obtain ⟨⟨⟨⟨hsel, hn⟩, hs⟩, hc⟩, hlex⟩ := hB
  have hn' : n < l.length := by simpa using hn
  have htl : (l.take n).length = n := by simp; omega
  have hdl : (l.drop n).length = l.toArray.size - n := by simp
  have inv0 : HeadInv .any l.toArray n (Array.replicate l.toArray.size false) :=
    ⟨by simp, fun j oj _ hl => (by rw [getD_replicate_false] at hl; cases hl), fun t _ ht => getD_in (by simpa using ht) (getD_replicate_false _ _)⟩
  have H := wpAnyLD_lex (S := S) (md := .any) (B := Region.seqB .any l.toArray (l.toArray.size - n) n) (fun listed h => seqB_ready h) hsel (fun listed inv i hi hun t ht => tail_waits hs hc hn inv _ i rfl hi hun t ht) (l.take n) 0 _ a (fun j hj => by
    have hj' : j < n := by rw [htl] at hj; exact hj
    simp [hj']) (by simpa using htl) inv0 (by rw [htl]; have := headB_eq .any l.toArray (l.toArray.size - n) n 0 (Array.replicate l.toArray.size false); rw [Nat.zero_add] at this; rw [this]; exact hlex) h
  refine wp_region_any hm ?_
  have := wpAny_of_headD (S := S) (Q' := Q) (g := l.toArray.size - n) (fun listed a' w' hL hS' => by
    have := wpAny_of_seq (md := .any) (Q' := Q) (l.drop n) n listed a' w' (fun j => by simp [List.getElem?_drop]) (by rw [hdl]; exact hL.1) (hL.2 w' hS')
    rwa [hdl] at this) _ _ _ _ hS H
  rw [htl, show n + (l.toArray.size - n) = l.toArray.size by omega] at this
  exact this
/-- Each behind the n-th waits for the n-th, or for one between. -/
def behindB (md : Region.Mode) (ops : Array Oper) (n : Nat) : Bool :=
  (List.range ops.size).all fun t => decide (t ≤ n) || (List.range ops.size).any fun j => decide (n ≤ j) && Region.waitsFor md ops t j
/-- It ends as it should, and in no other way. -/
def goesOn (Q : Exit → Act → World → Prop) (e : Exit) (a : Act) (w : World) : Prop := e = .normal ∧ Q .normal a w
end
end Go.Proofs.YtmlfnidckfeebaaGreatDoor
