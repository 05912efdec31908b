/- Walks, plain: Count is the document's; what is listed behind the last path; what is below a directory, in parts. Walks: what is below a directory, in parts (the law's own recursion). Quotas: what a leaf uses. Quotas: uses together. Quotas: what a directory uses. Quotas: the document's use of a directory. Quotas: the example of chapter 45. Quotas, plain: what a directory uses, by the tree and by the document. Quotas, plain: the root uses what its directories and the files right below it use, together. A law for a region that draws its order, by a plan: each next operation is the only one that may come, or tells one value in every world of a kind T, so that it may as well come now. Quotas: QuotaParts. -/
import Derived.Test.YteiblfcehlibpaaGreatDoorWD49
import Derived.Test.YteiblfcehlibpaaGreatDoorWD39
import Derived.Test.YteiblfcehlibpaaGreatDoorWD11
import Derived.Test.YteiblfcehlibpaaGreatDoorWD36
import Derived.Test.YteiblfcehlibpaaGreatDoorWD44
import Derived.Test.YteiblfcehlibpaaGreatDoorWD35
namespace Go.Proofs.YteiblfcehlibpaaGreatDoor
open Go.RowKit Go.Shelf
namespace Sp
theorem Both.rise {o : Option T} {m : List DE} (h : Both o m) : RiseE (toP m) := by rw [h.eq]; exact riseO h.go.1
/-! Lists behind the last path. -/
theorem rise_filter {m : List DE} (h : RiseE (toP m)) (p : DE → Bool) : RiseE (toP (m.filter p)) := by
  unfold RiseE toP at *
  rw [List.pairwise_map] at *
  exact h.filter _
theorem rgo_len1 (p : Bs) (vs : List Ver) : ∀ (l : List DE) (b : Bool), (rgo p vs b l).length ≤ l.length + if b = true then 0 else 1
  | [], b => by rw [rgo]; split <;> simp
  | e :: r, b => by
    rw [rgo, List.length_append, List.length_append]
    have h1 : (if e.1 = p then ([] : List DE) else [e]).length ≤ 1 := by split <;> simp
    cases b with
    | true =>
      have := rgo_len1 p vs r true
      rw [if_neg (by simp)]
      simp only [Bool.true_or, List.length_nil, List.length_cons, if_true] at this ⊢
      omega
    | false =>
      by_cases h : compare p e.1 ≤ 0
      · have := rgo_len1 p vs r true
        rw [if_pos ⟨rfl, h⟩]
        simp only [h, decide_true, Bool.false_or, List.length_nil, List.length_cons, if_true] at this ⊢
        simp
        omega
      · have := rgo_len1 p vs r false
        rw [if_neg (fun hh => h hh.2)]
        simp only [h, decide_false, Bool.false_or, List.length_nil, List.length_cons] at this ⊢
        simp at this ⊢
        omega
theorem rset_len (m : List DE) (p : Bs) (l : List Ver) : (rset m p l).length ≤ m.length + 1 := by
  have := rgo_len1 p l m (decide (l = []))
  unfold rset
  split at this <;> omega
theorem rsetS_len (m : List DE) (p : Bs) (l : List Ver) : (rsetS m p l).1.length ≤ m.length + 1 := by
  unfold rsetS
  split
  · simp
  · split
    · simp
    · split
      · simp
      · exact rset_len m p l
theorem rof_len : ∀ (l m : List DE), (rof m l).1.length ≤ m.length + l.length
  | [], m => Nat.le_refl _
  | e :: r, m => by
    rw [rof]
    split
    · simp
    · have h1 := rof_len r (rsetS m e.1 e.2).1
      have h2 := rsetS_len m e.1 e.2
      rw [List.length_cons]; omega
/-! What is below a directory, in parts. -/
def lessW (a b : Bs) : Prop := cmpP [a] [b] = -1
theorem lessW_trans {a b c : Bs} (h : lessW a b) (h' : lessW b c) : lessW a c := cmpP_trans _ _ _ h h'
theorem lessW_irr (a : Bs) : ¬ lessW a a := fun h => by unfold lessW at h; rw [cmpP_self] at h; cases h
theorem dd_less : ∀ (l : List Bs) (x : Bs), (x :: l).Pairwise (fun a b => a = b ∨ lessW a b) → (∀ y ∈ dd (some x) l, lessW x y) ∧ (dd (some x) l).Pairwise lessW
  | [], x, _ => ⟨(fun y h => by rw [dd] at h; cases h), List.Pairwise.nil⟩
  | y :: r, x, h => by
    obtain ⟨h1, h2⟩ := List.pairwise_cons.1 h
    rw [dd]
    by_cases hxy : some x = some y
    · obtain rfl : x = y := Option.some.inj hxy
      rw [if_pos rfl]
      exact dd_less r x h2
    · rw [if_neg hxy]
      have hl : lessW x y := (h1 y (List.mem_cons_self ..)).resolve_left fun e => hxy (by rw [e])
      obtain ⟨i1, i2⟩ := dd_less r y h2
      refine ⟨fun z hz => ?_, List.pairwise_cons.2 ⟨i1, i2⟩⟩
      rcases List.mem_cons.1 hz with rfl | hz
      · exact hl
      · exact lessW_trans hl (i1 z hz)
theorem ddf_less {l : List Bs} (h : l.Pairwise (fun a b => a = b ∨ lessW a b)) : (ddf l).Pairwise lessW := by
  rw [← dd_ddf]
  cases l with
  | nil => exact List.Pairwise.nil
  | cons x r =>
    obtain ⟨i1, i2⟩ := dd_less r x h
    exact List.pairwise_cons.2 ⟨i1, i2⟩
theorem dd_mem : ∀ (l : List Bs) (p : Option Bs) (x : Bs), x ∈ l → x ∈ dd p l ∨ p = some x
  | y :: r, p, x, h => by
    rw [dd]
    by_cases hp : p = some y
    · rw [if_pos hp]
      rcases List.mem_cons.1 h with rfl | h
      · exact .inr hp
      · exact dd_mem r p x h
    · rw [if_neg hp]
      rcases List.mem_cons.1 h with rfl | h
      · exact .inl (List.mem_cons_self ..)
      · rcases dd_mem r (some y) x h with h | h
        · exact .inl (List.mem_cons_of_mem _ h)
        · obtain rfl := Option.some.inj h
          exact .inl (List.mem_cons_self ..)
theorem dd_sub : ∀ (l : List Bs) (p : Option Bs) (x : Bs), x ∈ dd p l → x ∈ l
  | y :: r, p, x, h => by
    rw [dd] at h
    split at h
    · exact List.mem_cons_of_mem _ (dd_sub r p x h)
    · rcases List.mem_cons.1 h with rfl | h
      · exact List.mem_cons_self ..
      · exact List.mem_cons_of_mem _ (dd_sub r (some y) x h)
  | [], p, x, h => by rw [dd] at h; cases h
theorem sum_one (x : Bs) : ∀ (L : List Bs), L.Pairwise lessW → (L.map fun s => if s = x then 1 else 0).sum = if x ∈ L then 1 else 0
  | [], _ => rfl
  | s :: r, h => by
    obtain ⟨h1, h2⟩ := List.pairwise_cons.1 h
    rw [List.map_cons, List.sum_cons, sum_one x r h2]
    by_cases hs : s = x
    · subst hs
      have : s ∉ r := fun hh => lessW_irr s (h1 s hh)
      simp [this]
    · have hs' : ¬ x = s := fun e => hs e.symm
      simp [hs, hs']
theorem sum_counts (L : List Bs) (hL : L.Pairwise lessW) : ∀ (N : List Bs), (∀ x ∈ N, x ∈ L) → (L.map fun s => (N.filter fun y => decide (y = s)).length).sum = N.length
  | [], _ => by
    clear hL
    induction L with
    | nil => rfl
    | cons a r ih => simpa using ih
  | x :: r, h => by
    have ih := sum_counts L hL r fun y hy => h y (List.mem_cons_of_mem _ hy)
    have h1 := sum_one x L hL
    rw [if_pos (h x (List.mem_cons_self ..))] at h1
    have h2 : ∀ M : List Bs, (M.map fun s => ((x :: r).filter fun y => decide (y = s)).length).sum = (M.map fun s => if s = x then 1 else 0).sum + (M.map fun s => (r.filter fun y => decide (y = s)).length).sum := by
      intro M
      induction M with
      | nil => rfl
      | cons s M ihM =>
        rw [List.map_cons, List.sum_cons, List.map_cons, List.sum_cons, List.map_cons, List.sum_cons, ihM]
        by_cases hs : s = x
        · subst hs
          rw [List.filter_cons_of_pos (by simp)]
          simp
          omega
        · have hs' : ¬ x = s := fun e => hs e.symm
          rw [List.filter_cons_of_neg (by simpa using hs')]
          simp [hs]
          omega
    rw [h2, h1, ih, List.length_cons]; omega
theorem under_parts {p d : Bs} (h : under p d = true) : parts p ≠ [] ∧ (d = [] ∨ parts d ≠ []) ∧ (parts d).length < (parts p).length ∧ (parts p).take (parts d).length = parts d := by
  unfold under at h
  simpa [and_assoc] using h
theorem under_of {p d : Bs} (h : parts p ≠ [] ∧ (d = [] ∨ parts d ≠ []) ∧ (parts d).length < (parts p).length ∧ (parts p).take (parts d).length = parts d) : under p d = true := by
  unfold under
  simpa [and_assoc] using h
theorem cmpP_app : ∀ (D a b : List Bs), cmpP (D ++ a) (D ++ b) = cmpP a b
  | [], _, _ => rfl
  | x :: D, a, b => by
    rw [List.cons_append, List.cons_append, cmpP, if_pos rfl]
    exact cmpP_app D a b
theorem cmpP_head {x y : Bs} {a b : List Bs} (h : cmpP (x :: a) (y :: b) = -1) : x = y ∨ lessW x y := by
  rw [cmpP] at h
  by_cases e : x = y
  · exact .inl e
  · rw [if_neg e] at h
    right
    unfold lessW
    rw [cmpP, if_neg e]
    exact h
theorem split_at {α : Type} (l : List α) (n : Nat) (d : α) (h : n < l.length) : l = l.take n ++ l.getD n d :: l.drop (n + 1) := by
  rw [List.getD_eq_getElem?_getD, List.getElem?_eq_getElem h, Option.getD_some, List.getElem_cons_drop, List.take_append_drop]
theorem dnames_sorted {m : List DE} (hr : RiseE (toP m)) (hm : Paths m) (d : Bs) : (dnames (parts d).length (wunder m d)).Pairwise fun a b => a = b ∨ lessW a b := by
  unfold dnames
  rw [List.pairwise_flatMap]
  refine ⟨fun e _ => by split <;> simp, ?_⟩
  have h1 : (wunder m d).Pairwise fun a b => cmpP (split a.1) (split b.1) = -1 := by
    have := rise_filter hr fun e => under e.1 d
    unfold RiseE toP at this
    rw [List.pairwise_map] at this
    exact this
  refine List.Pairwise.imp_of_mem ?_ h1
  intro a b ha hb hab x hx y hy
  obtain ⟨am, au⟩ := List.mem_filter.1 ha
  obtain ⟨bm, bu⟩ := List.mem_filter.1 hb
  have au' := under_parts au
  have bu' := under_parts bu
  rw [← (check_parts (hm a am)).1, ← (check_parts (hm b bm)).1] at hab
  rw [split_at (parts a.1) _ [] au'.2.2.1, split_at (parts b.1) _ [] bu'.2.2.1, au'.2.2.2, bu'.2.2.2, cmpP_app] at hab
  have := cmpP_head hab
  split at hx
  · split at hy
    · obtain rfl := List.mem_singleton.1 hx
      obtain rfl := List.mem_singleton.1 hy
      exact this
    · cases hy
  · cases hx
theorem dirsS_mem {m : List DE} {d s : Bs} : s ∈ dirsS m d ↔ ∃ e ∈ wunder m d, (parts d).length + 1 < (parts e.1).length ∧ (parts e.1).getD (parts d).length [] = s := by
  unfold dirsS
  rw [← dd_ddf]
  constructor
  · intro h
    have h1 := dd_sub _ _ _ h
    unfold dnames at h1
    obtain ⟨e, he, hx⟩ := List.mem_flatMap.1 h1
    split at hx
    · rename_i hl
      exact ⟨e, he, hl, (List.mem_singleton.1 hx).symm⟩
    · cases hx
  · rintro ⟨e, he, hl, rfl⟩
    have : (parts e.1).getD (parts d).length [] ∈ dnames (parts d).length (wunder m d) := by
      unfold dnames
      refine List.mem_flatMap.2 ⟨e, he, ?_⟩
      rw [if_pos hl]
      exact List.mem_singleton.2 rfl
    exact (dd_mem _ none _ this).resolve_right (by simp)
end Sp
end Go.Proofs.YteiblfcehlibpaaGreatDoor
namespace Go.Proofs.YteiblfcehlibpaaGreatDoor
open Go.RowKit Go.Shelf
attribute [local go_sem] yUpon strOf_toList
namespace Sp
theorem sum_take {α : Type} (f : α → Nat) (l : List α) (k : Nat) (h : k < l.length) : ((l.take (k + 1)).map f).sum = ((l.take k).map f).sum + f l[k] := by
  rw [List.take_succ_eq_append_getElem h, List.map_append, List.sum_append]; simp
end Sp
end Go.Proofs.YteiblfcehlibpaaGreatDoor
namespace Go.Proofs.YteiblfcehlibpaaGreatDoor
open Go.RowKit Go.Shelf
attribute [local go_sem] yUpon strOf_toList
namespace Sp
/-- Files, bytes, sides, dead ones. -/
abbrev Use := Nat × Nat × Nat × Nat
def sumB (l : List Ver) : Nat := (l.map fun v => v.data.length).sum
def useL (l : List Ver) : Use := (min (live l).length 1, sumB (live l), (live l).length - 1, l.length - (live l).length)
theorem sumB_take (l : List Ver) (k : Nat) (h : k < l.length) : sumB (l.take (k + 1)) = sumB (l.take k) + l[k].data.length := sum_take _ l k h
theorem sumB_le (n : Nat) : ∀ l : List Ver, (∀ v ∈ l, v.data.length ≤ n) → sumB l ≤ l.length * n
  | [], _ => Nat.zero_le _
  | v :: r, h => by
    have h1 := sumB_le n r fun x hx => h x (List.mem_cons_of_mem _ hx)
    have h2 := h v (List.mem_cons_self ..)
    unfold sumB at *
    rw [List.map_cons, List.sum_cons, List.length_cons, Nat.succ_mul]
    omega
end Sp
def useC (u : Sp.Use) : Array Value := #[.int .i64 u.1, .int .i64 u.2.1, .int .i64 u.2.2.1, .int .i64 u.2.2.2]
set_option maxRecDepth 100000 in
set_option maxHeartbeats 4000000 in
theorem qleaf_calls (l : List Sp.Ver) (A : Option Addr) (cap : Nat) (w : World) (h : Vers w A l) (hl : l.length ≤ 1000) (hd : ∀ v ∈ l, v.data.length ≤ 1000) :
    Calls Tryz.prog 57 #[.slice A l.length cap] w fun e w' => e = .returned (.agg (useC (Sp.useL l))) ∧ Ext w w' := by
  have LC := Lib.hid fun W (e : Ext w W) => live_calls l A cap W (h.ext e) (by omega)
  have QL : (Sp.live l).length ≤ l.length := List.length_filter_le _ _
  have QD := Lib.hid (show ∀ v ∈ Sp.live l, v.data.length ≤ 1000 from fun v hv => hd v (List.mem_filter.1 hv).1)
  have UU := Lib.hid (show Sp.useL l = (min (Sp.live l).length 1, Sp.sumB (Sp.live l), (Sp.live l).length - 1, l.length - (Sp.live l).length) from rfl)
  obtain ⟨q, hq⟩ : ∃ q, q = Sp.live l := ⟨_, rfl⟩
  rw [← hq] at LC QL QD UU
  obtain ⟨n, hn⟩ : ∃ n, n = l.length := ⟨_, rfl⟩
  rw [← hn] at LC QL UU hl ⊢
  obtain ⟨dn, hdn⟩ : ∃ dn, dn = n - q.length := ⟨_, rfl⟩
  rw [← hdn] at UU
  have w1 : IntKind.i64.wrap ((n : Int) - (q.length : Int)) = (dn : Int) := by rw [IntWalk.i64_in _ (by omega)]; omega
  clear hq hd h hdn hn
  go_enter Tryz.func57, Tryz.ntmps57
  go_upto_region 1 with fail
  obtain ⟨w0, hw0⟩ : ∃ w0, w0 = w.alloc (.cells #[.int .i64 0, .int .i64 0, .int .i64 0, .int .i64 0] 41) := ⟨_, rfl⟩
  have X0 := Lib.hid (show isBlk w0 w.heap.size 41 #[.int .i64 0, .int .i64 0, .int .i64 0, .int .i64 0] by rw [hw0]; exact box_at w _ _)
  have E0 := Lib.hid (show Ext w w0 by rw [hw0]; exact Ext.alloc _ _)
  rw [← hw0]
  clear hw0
  go_wp2_with fail
  refine (LC.out w0 E0.out).mono ?_
  rintro e w2 ⟨v2, rfl, hO2, hb2⟩
  obtain ⟨A2, c2, rfl, hV2⟩ := hO2.read
  have V2 := Lib.hid hV2
  have X2 := Lib.hid (X0.out.below hb2)
  have E2 := Lib.hid (E0.out.trans hb2)
  clear hO2 hV2 hb2 X0
  go_upto_if 17 with fail
  obtain ⟨w3, hw3⟩ : ∃ w3, w3 = w2.alloc (.cells #[.int .i64 0, .int .i64 0, .int .i64 0, .int .i64 dn] 41) := ⟨_, rfl⟩
  have X3 := Lib.hid (show isBlk w3 w2.heap.size 41 #[.int .i64 0, .int .i64 0, .int .i64 0, .int .i64 dn] by rw [hw3]; exact box_at w2 _ _)
  have E3 := Lib.hid (show Ext w2 w3 by rw [hw3]; exact Ext.alloc _ _)
  rw [← hw3]
  clear hw3
  obtain ⟨mf, hmf⟩ : ∃ mf, mf = min q.length 1 := ⟨_, rfl⟩
  obtain ⟨ms, hms⟩ : ∃ ms, ms = q.length - 1 := ⟨_, rfl⟩
  rw [← hmf, ← hms] at UU
  have HMF := Lib.hid hmf
  have HMS := Lib.hid hms
  clear hmf hms
  go_cut [] (fun wx => isBlk wx w2.heap.size 41 #[.int .i64 mf, .int .i64 0, .int .i64 ms, .int .i64 dn] ∧ Ext w2 wx)
  case first =>
    by_cases h0 : 0 < q.length
    · have w4 : IntKind.i64.wrap ((q.length : Int) - 1) = (ms : Int) := by rw [IntWalk.i64_in _ (by omega), HMS.out]; omega
      have g0 := X3.out.frozen 0
      have g2 := X3.out.frozen 2
      have e0 := (X3.out.cell 0).trans rfl
      have e2 := (X3.out.cell 2).trans rfl
      have M1 := Lib.hid (show mf = 1 by rw [HMF.out]; omega)
      clear w1
      go_wp2
      go_meet
      case rel =>
        rw [M1.out]
        exact ⟨(X3.out.put 0 (.int .i64 1) rfl).put 2 (.int .i64 (ms : Int)) rfl, (E3.out.setCell (p := ⟨w2.heap.size, 0, none⟩) (by simp) _).setCell (p := ⟨w2.heap.size, 2, none⟩) (by simp) _⟩
    · have M1 := Lib.hid (show mf = 0 by rw [HMF.out]; omega)
      have M2 := Lib.hid (show ms = 0 by rw [HMS.out]; omega)
      clear w1
      go_wp2
      go_meet
      case rel => rw [M1.out, M2.out]; exact ⟨X3.out, E3.out⟩
  case rest =>
    obtain ⟨hx, hbx⟩ := hcut
    obtain ⟨wx, hwx⟩ : ∃ wx, wx = wc := ⟨_, rfl⟩
    rw [← hwx] at hx hbx ⊢
    have XX := Lib.hid hx
    have BX := Lib.hid hbx
    clear hx hbx hwx X3 E3
    have QL2 : q.length ≤ 1000 := by omega
    clear w1
    go_wp2
    go_loopw [25] (fun v25 wr => ∃ k : Nat, k ≤ q.length ∧ v25 = .int .i64 k ∧ isBlk wr w2.heap.size 41 #[.int .i64 mf, .int .i64 (Sp.sumB (q.take k) : Nat), .int .i64 ms, .int .i64 dn] ∧ Ext w2 wr) (fun v25 _ => q.length - (intOf v25).toNat)
    case atStart => exact ⟨0, Nat.zero_le _, rfl, XX.out, BX.out⟩
    case round =>
      obtain ⟨k, hk, rfl, hz, hb⟩ := hrel
      have HB := Lib.hid hb
      have HZ := Lib.hid hz
      by_cases hlt : k < q.length
      · obtain ⟨eb, eo, rfl, hc0⟩ := V2.out.at (by omega)
        obtain ⟨A', c', hvc, hpast⟩ := hc0 k hlt
        obtain ⟨c0, c1, c2, c3, c4⟩ := hvc.ext hb
        have ST := Lib.hid (Sp.sumB_take q k hlt)
        have SL := Sp.sumB_le 1000 (q.take k) fun v hv => QD.out v (List.mem_of_mem_take hv)
        rw [List.length_take] at SL
        have dl := QD.out _ (List.getElem_mem hlt)
        obtain ⟨x, hx⟩ : ∃ x, x = q[k] := ⟨_, rfl⟩
        rw [← hx] at c0 c1 c2 c3 c4 ST dl
        obtain ⟨sm, hsm⟩ : ∃ sm, sm = Sp.sumB (q.take k) := ⟨_, rfl⟩
        rw [← hsm] at HZ ST SL
        have b1 : (k : Int) < (q.length : Int) := by omega
        have SL2 : sm ≤ 1000000 := Nat.le_trans SL (Nat.le_trans (Nat.mul_le_mul_right 1000 (Nat.min_le_left k q.length)) (by omega))
        clear hz hb hvc hpast hc0 hx hsm SL
        go_upto_region 8 with fail
        obtain ⟨w6, hw6⟩ : ∃ w6, w6 = wr.alloc (.cells #[.int .i64 x.dot.1, .int .i64 x.dot.2, .slice A' x.past.length c', .bool x.dead, .string (strOf x.data)] 75) := ⟨_, rfl⟩
        have X6 := Lib.hid (show isBlk w6 wr.heap.size 75 #[.int .i64 x.dot.1, .int .i64 x.dot.2, .slice A' x.past.length c', .bool x.dead, .string (strOf x.data)] by rw [hw6]; exact box_at wr _ _)
        have E6 := Lib.hid (show Ext wr w6 by rw [hw6]; exact Ext.alloc _ _)
        have Z6 := Lib.hid (HZ.out.below E6.out)
        rw [← hw6]
        clear hw6 c0 c1 c2 c3 c4
        have f4 := (X6.out.cell 4).trans rfl
        have z1 := (Z6.out.cell 1).trans rfl
        have g1 := Z6.out.frozen 1
        have sz := strOf_size x.data
        go_wp2
        go_roundw
        case rel =>
          refine ⟨k + 1, by omega, by go_num, ?_, (HB.out.trans E6.out).setCell (p := ⟨w2.heap.size, 1, none⟩) (by simp) _⟩
          have := Z6.out.put 1 (.int .i64 ((sm : Int) + (x.data.length : Int))) rfl
          rw [ST.out, show ((sm + x.data.length : Nat) : Int) = (sm : Int) + (x.data.length : Int) by omega]
          exact this
        case measure => simp [intOf]; omega
      · obtain rfl : k = q.length := by omega
        rw [List.take_length] at HZ
        have Y := Lib.hid (X2.out.below (BX.out.trans (Ext.refl _)))
        clear hz hb
        have z0 := (HZ.out.cell 0).trans rfl
        have z1 := (HZ.out.cell 1).trans rfl
        have z2 := (HZ.out.cell 2).trans rfl
        have z3 := (HZ.out.cell 3).trans rfl
        have RX := Lib.hid (X2.out.below HB.out)
        have r0 := (RX.out.cell 0).trans rfl
        have r1 := (RX.out.cell 1).trans rfl
        have r2 := (RX.out.cell 2).trans rfl
        have r3 := (RX.out.cell 3).trans rfl
        have g0 := RX.out.frozen 0
        have g1 := RX.out.frozen 1
        have g2 := RX.out.frozen 2
        have g3 := RX.out.frozen 3
        obtain ⟨sm, hsm⟩ : ∃ sm, sm = Sp.sumB q := ⟨_, rfl⟩
        rw [← hsm] at HZ z1 UU
        clear hsm Y
        go_wp2
        refine bodyPost_ret (results_cell_row rfl _ _ w.heap.size 41 #[.int .i64 mf, .int .i64 sm, .int .i64 ms, .int .i64 dn] (0, 0) _ rfl ((((RX.out.put 0 _ rfl).put 1 _ rfl).put 2 _ rfl).put 3 _ rfl) Tryz.underlying41 rfl (by kernel_rfl)) rfl ?_
        exact ⟨by rw [UU.out]; rfl, ((((E2.out.trans HB.out).setCell (p := ⟨w.heap.size, 0, none⟩) (by simp) _).setCell (p := ⟨w.heap.size, 1, none⟩) (by simp) _).setCell (p := ⟨w.heap.size, 2, none⟩) (by simp) _).setCell (p := ⟨w.heap.size, 3, none⟩) (by simp) _⟩
namespace Sp
def useZ : Use := (0, 0, 0, 0)
def useA (a b : Use) : Use := (a.1 + b.1, a.2.1 + b.2.1, a.2.2.1 + b.2.2.1, a.2.2.2 + b.2.2.2)
def useSum (l : List Use) : Use := l.foldl useA useZ
/-- No use is so much that a sum of so many would not fit. -/
def Small (n : Nat) (u : Use) : Prop := u.1 ≤ n ∧ u.2.1 ≤ n ∧ u.2.2.1 ≤ n ∧ u.2.2.2 ≤ n
theorem useSum_snoc (l : List Use) (u : Use) : useSum (l ++ [u]) = useA (useSum l) u := by unfold useSum; rw [List.foldl_append]; rfl
theorem useSum_from {n : Nat} : ∀ (l : List Use) (m : Nat) (a : Use), Small m a → (∀ u ∈ l, Small n u) → Small (m + l.length * n) (l.foldl useA a)
  | [], m, a, h, _ => by simpa using h
  | u :: r, m, a, h, hl => by
    obtain ⟨a1, a2, a3, a4⟩ := h
    obtain ⟨b1, b2, b3, b4⟩ := hl u (List.mem_cons_self ..)
    have := useSum_from r (m + n) (useA a u) ⟨Nat.add_le_add a1 b1, Nat.add_le_add a2 b2, Nat.add_le_add a3 b3, Nat.add_le_add a4 b4⟩ fun x hx => hl x (List.mem_cons_of_mem _ hx)
    rw [List.foldl_cons, List.length_cons, Nat.succ_mul, Nat.add_comm (r.length * n) n, ← Nat.add_assoc]
    exact this
theorem useSum_small {n : Nat} (l : List Use) (h : ∀ u ∈ l, Small n u) : Small (l.length * n) (useSum l) := by
  have := useSum_from l 0 useZ ⟨Nat.le_refl _, Nat.le_refl _, Nat.le_refl _, Nat.le_refl _⟩ h
  rwa [Nat.zero_add] at this
theorem useSum_take (l : List Use) (k : Nat) (h : k < l.length) : useSum (l.take (k + 1)) = useA (useSum (l.take k)) l[k] := by
  rw [List.take_succ_eq_append_getElem h, useSum_snoc]
end Sp
def usesC : List Sp.Use → List Value
  | [] => []
  | u :: r => (useC u).toList ++ usesC r
theorem usesC_len : ∀ l, (usesC l).length = l.length * 4
  | [] => rfl
  | u :: r => by rw [usesC, List.length_append, usesC_len r, List.length_cons]; simp [useC]; omega
theorem usesC_snoc (l : List Sp.Use) (u : Sp.Use) : usesC (l ++ [u]) = usesC l ++ (useC u).toList := by
  induction l with
  | nil => simp [usesC]
  | cons x r ih => rw [List.cons_append, usesC, ih, usesC, List.append_assoc]
theorem usesC_get : ∀ (l : List Sp.Use) (k j : Nat) (h : k < l.length), j < 4 → (usesC l)[k * 4 + j]? = (useC l[k])[j]?
  | u :: r, 0, j, h, hj => by
    rw [usesC, Nat.zero_mul, Nat.zero_add, List.getElem?_append_left (by simpa [useC] using hj)]
    simp
  | u :: r, k + 1, j, h, hj => by
    have := usesC_get r k j (by simpa using h) hj
    rw [usesC, List.getElem?_append_right (by simp [useC]; omega)]
    simp only [Array.length_toList, List.getElem_cons_succ]
    rw [← this]
    congr 1
    simp [useC]; omega
def Uses (w : World) (A : Option Addr) (l : List Sp.Use) : Prop := Cells w A (usesC l)
theorem Uses.ext {w w' : World} {A : Option Addr} {l : List Sp.Use} (h : Uses w A l) (e : Ext w w') : Uses w' A l := Cells.ext h e
theorem Uses.at {w : World} {A : Option Addr} {l : List Sp.Use} (h : Uses w A l) (hn : 0 < l.length) : ∃ g o, A = some ⟨g, o, none⟩ ∧ ∀ k (h : k < l.length), w.cell? ⟨g, o + k * 4, none⟩ = some (.int .i64 l[k].1) ∧ w.cell? ⟨g, o + k * 4 + 1, none⟩ = some (.int .i64 l[k].2.1) ∧ w.cell? ⟨g, o + k * 4 + 2, none⟩ = some (.int .i64 l[k].2.2.1) ∧ w.cell? ⟨g, o + k * 4 + 3, none⟩ = some (.int .i64 l[k].2.2.2) := by
  obtain ⟨g, o, hA, hc⟩ := h (by
    intro e
    have := usesC_len l
    rw [e] at this
    simp at this
    omega)
  refine ⟨g, o, hA, fun k hk => ⟨?_, ?_, ?_, ?_⟩⟩
  · exact hc _ _ (usesC_get l k 0 hk (by decide))
  · exact hc _ _ (usesC_get l k 1 hk (by decide))
  · exact hc _ _ (usesC_get l k 2 hk (by decide))
  · exact hc _ _ (usesC_get l k 3 hk (by decide))
end Go.Proofs.YteiblfcehlibpaaGreatDoor
namespace Go.Proofs.YteiblfcehlibpaaGreatDoor
open Go.RowKit Go.Shelf
attribute [local go_sem] yUpon strOf_toList
set_option maxRecDepth 100000 in
set_option maxHeartbeats 4000000 in
theorem qsum_calls (l : List Sp.Use) (A : Option Addr) (cap : Nat) (w : World) (h : Uses w A l) (hl : l.length ≤ 1000) (hs : ∀ u ∈ l, Sp.Small 1000000000 u) :
    Calls Tryz.prog 59 #[.slice A l.length cap] w fun e w' => e = .returned (.agg (useC (Sp.useSum l))) ∧ Ext w w' := by
  have HH := Lib.hid h
  have HS := Lib.hid hs
  clear h hs
  go_enter Tryz.func59, Tryz.ntmps59
  go_upto_region 2 with fail
  obtain ⟨w0, hw0⟩ : ∃ w0, w0 = (w.alloc (.cells #[.int .i64 0, .int .i64 0, .int .i64 0, .int .i64 0] 41)).alloc (.cells #[.int .i64 0, .int .i64 0, .int .i64 0, .int .i64 0] 41) := ⟨_, rfl⟩
  have X0 := Lib.hid (show isBlk w0 w.heap.size 41 #[.int .i64 0, .int .i64 0, .int .i64 0, .int .i64 0] by rw [hw0]; exact (box_at w _ _).alloc _)
  have Y0 := Lib.hid (show isBlk w0 (w.heap.size + 1) 41 #[.int .i64 0, .int .i64 0, .int .i64 0, .int .i64 0] by
    rw [hw0]
    have := box_at (w.alloc (.cells #[.int .i64 0, .int .i64 0, .int .i64 0, .int .i64 0] 41)) #[.int .i64 0, .int .i64 0, .int .i64 0, .int .i64 0] 41
    rwa [World.size_alloc] at this)
  have E0 := Lib.hid (show Ext w w0 by rw [hw0]; exact Below.alloc (Ext.alloc _ _) (by simp) _)
  rw [← hw0]
  clear hw0
  go_wp2
  go_loopw [8] (fun v8 wr => ∃ k : Nat, k ≤ l.length ∧ v8 = .int .i64 k ∧ isBlk wr (w.heap.size + 1) 41 (useC (Sp.useSum (l.take k))) ∧ isBlk wr w.heap.size 41 #[.int .i64 0, .int .i64 0, .int .i64 0, .int .i64 0] ∧ Ext w wr) (fun v8 _ => l.length - (intOf v8).toNat)
  case atStart => exact ⟨0, Nat.zero_le _, rfl, Y0.out, X0.out, E0.out⟩
  case round =>
    obtain ⟨k, hk, rfl, hy, hx, hb⟩ := hrel
    have HB := Lib.hid hb
    have HY := Lib.hid hy
    have HX := Lib.hid hx
    by_cases hlt : k < l.length
    · obtain ⟨eb, eo, rfl, hc⟩ := (HH.out.ext hb).at (by omega)
      obtain ⟨c0, c1, c2, c3⟩ := hc k hlt
      have ST := Lib.hid (Sp.useSum_take l k hlt)
      obtain ⟨s1, s2, s3, s4⟩ := Sp.useSum_small (l.take k) fun u hu => HS.out u (List.mem_of_mem_take hu)
      rw [List.length_take] at s1 s2 s3 s4
      have kk := Nat.mul_le_mul_right 1000000000 (Nat.min_le_left k l.length)
      obtain ⟨t1, t2, t3, t4⟩ := HS.out _ (List.getElem_mem hlt)
      obtain ⟨u, hu⟩ : ∃ u, u = l[k] := ⟨_, rfl⟩
      rw [← hu] at c0 c1 c2 c3 ST t1 t2 t3 t4
      obtain ⟨s, hsm⟩ : ∃ s, s = Sp.useSum (l.take k) := ⟨_, rfl⟩
      rw [← hsm] at HY ST s1 s2 s3 s4
      obtain ⟨a1, a2, a3, a4⟩ := s
      obtain ⟨b1, b2, b3, b4⟩ := u
      simp only at c0 c1 c2 c3 s1 s2 s3 s4 t1 t2 t3 t4
      have kb : (k : Int) < (l.length : Int) := by omega
      have k1 : a1 ≤ 1000000000000 := by omega
      have k2 : a2 ≤ 1000000000000 := by omega
      have k3 : a3 ≤ 1000000000000 := by omega
      have k4 : a4 ≤ 1000000000000 := by omega
      clear hy hx hb hc hu hsm s1 s2 s3 s4 kk
      go_upto_region 5 with fail
      obtain ⟨w6, hw6⟩ : ∃ w6, w6 = wr.alloc (.cells #[.int .i64 b1, .int .i64 b2, .int .i64 b3, .int .i64 b4] 41) := ⟨_, rfl⟩
      have X6 := Lib.hid (show isBlk w6 wr.heap.size 41 #[.int .i64 b1, .int .i64 b2, .int .i64 b3, .int .i64 b4] by rw [hw6]; exact box_at wr _ _)
      have E6 := Lib.hid (show Ext wr w6 by rw [hw6]; exact Ext.alloc _ _)
      have Z6 := Lib.hid (show isBlk w6 (w.heap.size + 1) 41 #[.int .i64 a1, .int .i64 a2, .int .i64 a3, .int .i64 a4] from HY.out.below E6.out)
      have Q6 := Lib.hid (HX.out.below E6.out)
      rw [← hw6]
      have ne : ¬ wr.heap.size = w.heap.size + 1 := by
        have := HY.out.lt
        omega
      clear hw6 c0 c1 c2 c3
      have f0 := (X6.out.cell 0).trans rfl
      have f1 := (X6.out.cell 1).trans rfl
      have f2 := (X6.out.cell 2).trans rfl
      have f3 := (X6.out.cell 3).trans rfl
      have z0 := (Z6.out.cell 0).trans rfl
      have z1 := (Z6.out.cell 1).trans rfl
      have z2 := (Z6.out.cell 2).trans rfl
      have z3 := (Z6.out.cell 3).trans rfl
      have g0 := Z6.out.frozen 0
      have g1 := Z6.out.frozen 1
      have g2 := Z6.out.frozen 2
      have g3 := Z6.out.frozen 3
      go_wp2
      go_roundw
      case rel =>
        refine ⟨k + 1, by omega, by go_num, ?_, ?_, ((((HB.out.trans E6.out).setCell (p := ⟨w.heap.size + 1, 0, none⟩) (by simp) _).setCell (p := ⟨w.heap.size + 1, 1, none⟩) (by simp) _).setCell (p := ⟨w.heap.size + 1, 2, none⟩) (by simp) _).setCell (p := ⟨w.heap.size + 1, 3, none⟩) (by simp) _⟩
        · have := (((Z6.out.put 0 (.int .i64 ((a1 : Int) + b1)) rfl).put 1 (.int .i64 ((a2 : Int) + b2)) rfl).put 2 (.int .i64 ((a3 : Int) + b3)) rfl).put 3 (.int .i64 ((a4 : Int) + b4)) rfl
          rw [ST.out]
          unfold useC Sp.useA
          simp only [Int.natCast_add]
          exact this
        · exact (((Q6.out.far (by simp) _).far (by simp) _).far (by simp) _).far (by simp) _
      case measure => simp [intOf]; omega
    · obtain rfl : k = l.length := by omega
      rw [List.take_length] at HY
      obtain ⟨s, hsm⟩ : ∃ s, s = Sp.useSum l := ⟨_, rfl⟩
      rw [← hsm] at HY
      obtain ⟨a1, a2, a3, a4⟩ := s
      have HSM := Lib.hid hsm
      have Z6 := Lib.hid (show isBlk wr (w.heap.size + 1) 41 #[.int .i64 a1, .int .i64 a2, .int .i64 a3, .int .i64 a4] from HY.out)
      have z0 := (Z6.out.cell 0).trans rfl
      have z1 := (Z6.out.cell 1).trans rfl
      have z2 := (Z6.out.cell 2).trans rfl
      have z3 := (Z6.out.cell 3).trans rfl
      have r0 := (HX.out.cell 0).trans rfl
      have r1 := (HX.out.cell 1).trans rfl
      have r2 := (HX.out.cell 2).trans rfl
      have r3 := (HX.out.cell 3).trans rfl
      have g0 := HX.out.frozen 0
      have g1 := HX.out.frozen 1
      have g2 := HX.out.frozen 2
      have g3 := HX.out.frozen 3
      clear hy hx hb hsm
      go_wp2
      refine bodyPost_ret (results_cell_row rfl _ _ w.heap.size 41 #[.int .i64 a1, .int .i64 a2, .int .i64 a3, .int .i64 a4] (0, 0) _ rfl ((((HX.out.put 0 _ rfl).put 1 _ rfl).put 2 _ rfl).put 3 _ rfl) Tryz.underlying41 rfl (by kernel_rfl)) rfl ?_
      exact ⟨by rw [← HSM.out]; rfl, (((HB.out.setCell (p := ⟨w.heap.size, 0, none⟩) (by simp) _).setCell (p := ⟨w.heap.size, 1, none⟩) (by simp) _).setCell (p := ⟨w.heap.size, 2, none⟩) (by simp) _).setCell (p := ⟨w.heap.size, 3, none⟩) (by simp) _⟩
set_option maxRecDepth 100000 in
set_option maxHeartbeats 4000000 in
theorem qwith_calls (u v : Sp.Use) (w : World) (hu : Sp.Small 1000000000 u) (hv : Sp.Small 1000000000 v) :
    Calls Tryz.prog 38 #[.agg (useC u), .agg (useC v)] w fun e w' => e = .returned (.agg (useC (Sp.useA u v))) ∧ Ext w w' := by
  have S2 := Lib.hid (show Sp.useSum [u, v] = Sp.useA u v by
    obtain ⟨a1, a2, a3, a4⟩ := u
    obtain ⟨b1, b2, b3, b4⟩ := v
    simp [Sp.useSum, Sp.useA, Sp.useZ])
  have SC := Lib.hid fun A W (h : Uses W A [u, v]) => qsum_calls [u, v] A 2 W h (by simp) (by intro x hx; simp at hx; rcases hx with rfl | rfl <;> assumption)
  rw [S2.out] at SC
  obtain ⟨s, hs⟩ : ∃ s, s = Sp.useA u v := ⟨_, rfl⟩
  rw [← hs] at SC ⊢
  obtain ⟨s1, s2, s3, s4⟩ := s
  obtain ⟨a1, a2, a3, a4⟩ := u
  obtain ⟨b1, b2, b3, b4⟩ := v
  clear hs S2 hu hv
  show Calls Tryz.prog 38 #[.agg #[.int .i64 a1, .int .i64 a2, .int .i64 a3, .int .i64 a4], .agg #[.int .i64 b1, .int .i64 b2, .int .i64 b3, .int .i64 b4]] w _
  go_enter Tryz.func38, Tryz.ntmps38
  go_upto_region 1 with fail
  obtain ⟨w0, hw0⟩ : ∃ w0, w0 = ((w.alloc (.cells #[.int .i64 a1, .int .i64 a2, .int .i64 a3, .int .i64 a4] 41)).alloc (.cells #[.int .i64 b1, .int .i64 b2, .int .i64 b3, .int .i64 b4] 41)).alloc (.cells #[.int .i64 0, .int .i64 0, .int .i64 0, .int .i64 0] 41) := ⟨_, rfl⟩
  have X0 := Lib.hid (show isBlk w0 w.heap.size 41 #[.int .i64 a1, .int .i64 a2, .int .i64 a3, .int .i64 a4] by rw [hw0]; exact ((box_at w _ _).alloc _).alloc _)
  have Y0 := Lib.hid (show isBlk w0 (w.heap.size + 1) 41 #[.int .i64 b1, .int .i64 b2, .int .i64 b3, .int .i64 b4] by
    rw [hw0]
    have := box_at (w.alloc (.cells #[.int .i64 a1, .int .i64 a2, .int .i64 a3, .int .i64 a4] 41)) #[.int .i64 b1, .int .i64 b2, .int .i64 b3, .int .i64 b4] 41
    rw [World.size_alloc] at this
    exact this.alloc _)
  have Z0 := Lib.hid (show isBlk w0 (w.heap.size + 1 + 1) 41 #[.int .i64 0, .int .i64 0, .int .i64 0, .int .i64 0] by
    rw [hw0]
    have := box_at ((w.alloc (.cells #[.int .i64 a1, .int .i64 a2, .int .i64 a3, .int .i64 a4] 41)).alloc (.cells #[.int .i64 b1, .int .i64 b2, .int .i64 b3, .int .i64 b4] 41)) #[.int .i64 0, .int .i64 0, .int .i64 0, .int .i64 0] 41
    rwa [World.size_alloc, World.size_alloc] at this)
  have E0 := Lib.hid (show Ext w w0 by rw [hw0]; exact Below.alloc (Below.alloc (Ext.alloc _ _) (by simp) _) (by simp; omega) _)
  rw [← hw0]
  clear hw0
  have f0 := (X0.out.cell 0).trans rfl
  have f1 := (X0.out.cell 1).trans rfl
  have f2 := (X0.out.cell 2).trans rfl
  have f3 := (X0.out.cell 3).trans rfl
  have k0 := (Y0.out.cell 0).trans rfl
  have k1 := (Y0.out.cell 1).trans rfl
  have k2 := (Y0.out.cell 2).trans rfl
  have k3 := (Y0.out.cell 3).trans rfl
  go_wp2_with fail
  obtain ⟨w1, hw1⟩ : ∃ w1, w1 = w0.alloc (.cells #[.int .i64 a1, .int .i64 a2, .int .i64 a3, .int .i64 a4, .int .i64 b1, .int .i64 b2, .int .i64 b3, .int .i64 b4] 41) := ⟨_, rfl⟩
  have U1 := Lib.hid (show Uses w1 (some ⟨w0.heap.size, 0, none⟩) [(a1, a2, a3, a4), (b1, b2, b3, b4)] from fun _ => ⟨_, _, rfl, fun i u hu => by
    rw [hw1, Nat.zero_add]
    exact ((box_at w0 _ _).cell i).trans (by rw [← Array.getElem?_toList]; exact hu)⟩)
  have E1 := Lib.hid (show Ext w0 w1 by rw [hw1]; exact Ext.alloc _ _)
  rw [← hw1]
  clear hw1 f0 f1 f2 f3 k0 k1 k2 k3
  refine (show Calls Tryz.prog 59 #[.slice (some ⟨w0.heap.size, 0, none⟩) 2 2] w1 fun e w' => e = .returned (.agg #[.int .i64 s1, .int .i64 s2, .int .i64 s3, .int .i64 s4]) ∧ Ext w1 w' from SC.out _ _ U1.out).mono ?_
  rintro e w2 ⟨rfl, hb2⟩
  have Z2 := Lib.hid ((Z0.out.below E1.out).below hb2)
  have E2 := Lib.hid (E0.out.trans (E1.out.trans hb2))
  have r0 := (Z2.out.cell 0).trans rfl
  have r1 := (Z2.out.cell 1).trans rfl
  have r2 := (Z2.out.cell 2).trans rfl
  have r3 := (Z2.out.cell 3).trans rfl
  have g0 := Z2.out.frozen 0
  have g1 := Z2.out.frozen 1
  have g2 := Z2.out.frozen 2
  have g3 := Z2.out.frozen 3
  clear hb2
  go_wp2
  refine bodyPost_ret (results_cell_row rfl _ _ (w.heap.size + 1 + 1) 41 #[.int .i64 s1, .int .i64 s2, .int .i64 s3, .int .i64 s4] (0, 0) _ rfl ((((Z2.out.put 0 _ rfl).put 1 _ rfl).put 2 _ rfl).put 3 _ rfl) Tryz.underlying41 rfl (by kernel_rfl)) rfl ?_
  exact ⟨rfl, (((E2.out.setCell (p := ⟨w.heap.size + 1 + 1, 0, none⟩) (by simp; omega) _).setCell (p := ⟨w.heap.size + 1 + 1, 1, none⟩) (by simp; omega) _).setCell (p := ⟨w.heap.size + 1 + 1, 2, none⟩) (by simp; omega) _).setCell (p := ⟨w.heap.size + 1 + 1, 3, none⟩) (by simp; omega) _⟩
end Go.Proofs.YteiblfcehlibpaaGreatDoor
namespace Go.Proofs.YteiblfcehlibpaaGreatDoor
open Go.RowKit Go.Shelf
attribute [local go_sem] yUpon strOf_toList
namespace Sp
def Fits (l : List Ver) : Prop := l.length ≤ 64 ∧ ∀ v ∈ l, v.data.length ≤ 48
theorem leaf_fits {l : List Ver} (h : leaf l = 0) : Fits l := ⟨(leaf_ok h).1, fun v hv => (vercheck_ok (lgo_vers l none (leaf_ok h).2.1 v hv)).2.2.2.1⟩
theorem fits_nil : Fits [] := ⟨Nat.zero_le _, fun v h => by cases h⟩
mutual
theorem entries_fit : ∀ t : T, Ok t → ∀ e ∈ entries t, Fits e.2
  | .mk leaf k, hk, e, h => by
    rw [entries] at h
    rcases List.mem_append.1 h with h | h
    · by_cases hl : leaf = []
      · rw [if_pos hl] at h; cases h
      · rw [if_neg hl] at h
        obtain rfl := List.mem_singleton.1 h
        exact leaf_fits (hk.1 hl)
    · exact entriesL_fit k hk.2.2 e h
theorem entriesL_fit : ∀ k : List (Bs × T), OkL k → ∀ e ∈ entriesL k, Fits e.2
  | [], _, e, h => by rw [entriesL] at h; cases h
  | (n, t) :: r, hk, e, h => by
    rw [entriesL] at h
    rcases List.mem_append.1 h with h | h
    · obtain ⟨x, hx, rfl⟩ := List.mem_map.1 h
      exact entries_fit t hk.2.2.1 x hx
    · exact entriesL_fit r hk.2.2.2 e h
end
theorem Both.fits {o : Option T} {m : List DE} (h : Both o m) : ∀ e ∈ m, Fits e.2 := fun e he => by
  have h1 : (split e.1, e.2) ∈ entriesO o := by rw [← h.eq]; exact List.mem_map.2 ⟨e, he, rfl⟩
  cases o with
  | none => cases h1
  | some t => exact entries_fit t (h.go.1 t rfl) _ h1
theorem Both.nodeFits {o : Option T} {m : List DE} (h : Both o m) (d : Bs) : Fits (nodeS (o.getD .nil) d).1 := by
  unfold nodeS
  cases hf : findS (o.getD .nil) d with
  | none => exact fits_nil
  | some s =>
    obtain ⟨_, h2, _⟩ := find_both h.eq h.go h.gm hf
    cases s with
    | mk leaf k =>
      show Fits (nodeT (.mk leaf k)).1
      rw [nodeT_leaf]
      show Fits leaf
      by_cases hl : leaf = []
      · rw [hl]; exact fits_nil
      · exact leaf_fits (h2.1 hl)
theorem useL_small {l : List Ver} (h : Fits l) : Small 100000 (useL l) := by
  obtain ⟨h1, h2⟩ := h
  have h3 : (live l).length ≤ l.length := List.length_filter_le _ _
  have h4 := sumB_le 48 (live l) fun v hv => h2 v (List.mem_filter.1 hv).1
  unfold useL
  refine ⟨?_, ?_, ?_, ?_⟩
  · show min (live l).length 1 ≤ 100000; omega
  · show sumB (live l) ≤ 100000; omega
  · show (live l).length - 1 ≤ 100000; omega
  · show l.length - (live l).length ≤ 100000; omega
theorem Small.mono {n m : Nat} {u : Use} (h : Small n u) (hn : n ≤ m) : Small m u := ⟨Nat.le_trans h.1 hn, Nat.le_trans h.2.1 hn, Nat.le_trans h.2.2.1 hn, Nat.le_trans h.2.2.2 hn⟩
def ofPre (o : Option T) (d : Bs) : List Use := if d ≠ [] then [useL (nodeS (o.getD .nil) d).1] else []
def ofU (o : Option T) (m : List DE) (d : Bs) : List Use := ofPre o d ++ (wunder m d).map fun e => useL e.2
end Sp
theorem appUse : AppStat Tryz.prog 91 41 4 32 := by
  refine ⟨Tryz.underlying91, by decide, by decide, ?_⟩
  obtain ⟨i0, hi, hz0, hz1, hz2⟩ := info_parts (show (Tryz.prog.info? 41).map (fun i => (i.zero, i.size, i.bytes)) = some (some (.agg #[.int .i64 0, .int .i64 0, .int .i64 0, .int .i64 0]), 4, 32) by kernel_rfl)
  exact ⟨i0, _, hi, hz0, hz1, hz2, rfl⟩
abbrev useT : TypeId → Prop := fun t => t = 41
set_option maxRecDepth 100000 in
set_option maxHeartbeats 4000000 in
theorem qof_calls (o : Option Sp.T) (v : Value) (m : List Sp.DE) (BO : Sp.Both o m) (d : Sp.Bs) (w : World) (hT : TreeAt w v o) (K : KeysAt w 4) (M : MaxAt w) :
    Calls Tryz.prog 25 #[v, .string (strOf d)] w fun e w' => e = .returned (.agg (useC (Sp.useSum (Sp.ofU o m d)))) ∧ Ext w w' := by
  have UC := Lib.hid fun W (e : Ext w W) => wunder_calls o v d W (hT.ext e) BO.go BO.short BO.len BO.many (K.ext e) (max_kept M e)
  rw [BO.told] at UC
  have GC := Lib.hid fun W (e : Ext w W) => tget_calls o v d W (hT.ext e) BO.go (K.ext e) (max_kept M e)
  have NF := Lib.hid (BO.nodeFits d)
  have UF := Lib.hid (show ∀ e ∈ Sp.wunder m d, Sp.Fits e.2 from fun e he => BO.fits e (List.mem_filter.1 he).1)
  have hul : (Sp.wunder m d).length ≤ 128 := Nat.le_trans (Sp.wunder_len m d) BO.gm.2
  have OU := Lib.hid (show Sp.ofU o m d = Sp.ofPre o d ++ (Sp.wunder m d).map (fun e => Sp.useL e.2) from rfl)
  have PU := Lib.hid (show Sp.ofPre o d = if d ≠ [] then [Sp.useL (Sp.nodeS (o.getD .nil) d).1] else [] from rfl)
  obtain ⟨U, hU⟩ : ∃ U, U = Sp.wunder m d := ⟨_, rfl⟩
  rw [← hU] at UC UF OU hul
  obtain ⟨lf, hlf⟩ : ∃ lf, lf = (Sp.nodeS (o.getD .nil) d).1 := ⟨_, rfl⟩
  rw [← hlf] at GC NF PU
  obtain ⟨pre, hpre⟩ : ∃ pre, pre = Sp.ofPre o d := ⟨_, rfl⟩
  rw [← hpre] at OU PU
  have P1 : pre.length ≤ 1 := by rw [PU.out]; split <;> simp
  have PS := Lib.hid (show ∀ u ∈ pre, Sp.Small 100000 u by
    rw [PU.out]
    split
    · intro u hu; rw [List.mem_singleton.1 hu]; exact Sp.useL_small NF.out
    · intro u hu; cases hu)
  obtain ⟨ap, rfl⟩ := tree_ptr hT
  clear hU hlf hpre hT K M BO
  go_enter Tryz.func25, Tryz.ntmps25
  go_upto_if 9 with fail
  obtain ⟨w1, hw1⟩ : ∃ w1, w1 = w.alloc (.cells #[.int .i64 0, .int .i64 0, .int .i64 0, .int .i64 0] 41) := ⟨_, rfl⟩
  have X1 := Lib.hid (show isBlk w1 w.heap.size 41 #[.int .i64 0, .int .i64 0, .int .i64 0, .int .i64 0] by rw [hw1]; exact box_at w _ _)
  have E1 := Lib.hid (show Ext w w1 by rw [hw1]; exact Ext.alloc _ _)
  rw [← hw1]
  clear hw1
  go_cut [5, 9] (fun v5 _ wx => wx.ownsRow w1.heap.size 41 4 v5 pre.length (usesC pre) ∧ Ext w1 wx)
  case first =>
    go_wp2_with fail
    · have hd : d ≠ [] := by
        have h : (!List.isEmpty d) = true := by assumption
        rintro rfl
        cases h
      rw [if_pos hd] at PU
      refine (GC.out w1 E1.out).mono ?_
      rintro e w2 ⟨A2, c2, rfl, hV2, hb2⟩
      have B2 := Lib.hid (show Ext w1 w2 from hb2)
      have QC := Lib.hid (qleaf_calls lf A2 c2 w2 hV2 (by have := NF.out.1; omega) (fun v hv => by have := NF.out.2 v hv; omega))
      obtain ⟨u, hu⟩ : ∃ u, u = Sp.useL lf := ⟨_, rfl⟩
      rw [← hu] at QC PU
      obtain ⟨a1, a2, a3, a4⟩ := u
      clear hV2 hb2 hu hd
      go_wp2_with fail
      refine (show Calls Tryz.prog 57 #[.slice A2 lf.length c2] w2 fun e w' => e = .returned (.agg #[.int .i64 a1, .int .i64 a2, .int .i64 a3, .int .i64 a4]) ∧ Ext w2 w' from QC.out).mono ?_
      rintro e w3 ⟨rfl, hb3⟩
      have B3 := Lib.hid (B2.out.trans hb3)
      clear hb3
      go_wp2_with (at_builtin; refine app_new appUse rfl _ _ rfl w1.heap.size _ 0 [] rfl (World.ownsRow_nil _ _ _ _) #[.int .i64 a1, .int .i64 a2, .int .i64 a3, .int .i64 a4] 41 1 rfl rfl (by intro u hu; simp at hu; rcases hu with rfl | rfl | rfl | rfl <;> rfl) (by decide) (by decide) B3.out.size ?_; intro g4 cap4 w4 hown4 hgr4 hb4 hbg4; have O4 := Lib.hid hown4; have B4 := Lib.hid (Below.trans B3.out hb4); clear hown4 hgr4 hb4 hbg4)
      go_meet
      case rel =>
        rw [PU.out]
        exact ⟨by have := O4.out; simpa [usesC, useC] using this, B4.out⟩
    · have hd : ¬ d ≠ [] := by
        have h : (!List.isEmpty d) = false := by assumption
        intro hd
        cases d with
        | nil => exact hd rfl
        | cons _ _ => cases h
      rw [if_neg hd] at PU
      have PU2 := Lib.hid PU.out
      clear hd PU
      go_meet
      case rel =>
        rw [PU2.out]
        exact ⟨World.ownsRow_nil _ _ _ _, Ext.refl _⟩
  case rest =>
    obtain ⟨ho, hbx⟩ := hcut
    obtain ⟨wx, hwx⟩ : ∃ wx, wx = wc := ⟨_, rfl⟩
    rw [← hwx] at ho hbx ⊢
    have OX := Lib.hid ho
    have BX := Lib.hid hbx
    clear ho hbx hwx PU GC
    go_wp2_with fail
    refine (UC.out wx (E1.out.trans BX.out)).mono ?_
    rintro e w2 ⟨v2, rfl, hO2, hb2⟩
    have OE := Lib.hid hO2
    obtain ⟨A2, c2, rfl, _⟩ := hO2.read
    have OO := Lib.hid (own_ext OX.out hb2)
    have B2 := Lib.hid (BX.out.trans hb2)
    have X2 := Lib.hid (X1.out.below B2.out)
    obtain ⟨us, hus⟩ : ∃ us, us = U.map fun e => Sp.useL e.2 := ⟨_, rfl⟩
    rw [← hus] at OU
    have ul : us.length = U.length := by rw [hus, List.length_map]
    have UK := Lib.hid (show ∀ k (h : k < U.length), us.take (k + 1) = us.take k ++ [Sp.useL U[k].2] from fun k h => by rw [hus, List.take_succ_eq_append_getElem (by rw [List.length_map]; exact h), List.getElem_map])
    have US := Lib.hid (show ∀ u ∈ us, Sp.Small 100000 u from fun u hu => by
      rw [hus] at hu
      obtain ⟨e, he, rfl⟩ := List.mem_map.1 hu
      exact Sp.useL_small (UF.out e he))
    have UL := Lib.hid ul
    clear hO2 hb2 OX BX UC hus ul
    go_wp2
    go_loopw [5, 21] (fun v5 v21 wr => ∃ k : Nat, k ≤ U.length ∧ v21 = .int .i64 k ∧ wr.ownsRow w1.heap.size 41 4 v5 (pre.length + k) (usesC (pre ++ us.take k)) ∧ EntsOwn wr wx.heap.size (.slice A2 U.length c2) U ∧ Ext w1 wr) (fun _ v21 _ => U.length - (intOf v21).toNat)
    case atStart => exact ⟨0, Nat.zero_le _, rfl, by rw [List.take_zero, List.append_nil]; exact OO.out, OE.out, B2.out⟩
    case round =>
      obtain ⟨k, hk, rfl, ho, he, hb⟩ := hrel
      have HO := Lib.hid ho
      have HE := Lib.hid he
      have HB := Lib.hid hb
      clear OO OE
      by_cases hlt : k < U.length
      · obtain ⟨A', c', ee, hE⟩ := HE.out.read
        cases ee
        obtain ⟨eb, eo, rfl, hc⟩ := hE.at (by omega)
        obtain ⟨Av, cv, c0, c1, hv⟩ := hc k hlt
        have HV := Lib.hid hv
        have UF2 := Lib.hid (UF.out _ (List.getElem_mem hlt))
        have UT := Lib.hid (show us.take (k + 1) = us.take k ++ [Sp.useL U[k].2] from UK.out k hlt)
        obtain ⟨x, hx⟩ : ∃ x, x = U[k] := ⟨_, rfl⟩
        rw [← hx] at c0 c1 HV UF2 UT
        have kb : (k : Int) < (U.length : Int) := by omega
        clear ho he hb hE hc hv hx
        go_upto_region 7 with fail
        obtain ⟨w6, hw6⟩ : ∃ w6, w6 = wr.alloc (.cells #[.string (strOf x.1), .slice Av x.2.length cv] 51) := ⟨_, rfl⟩
        have X6 := Lib.hid (show isBlk w6 wr.heap.size 51 #[.string (strOf x.1), .slice Av x.2.length cv] by rw [hw6]; exact box_at wr _ _)
        have E6 := Lib.hid (show Ext wr w6 by rw [hw6]; exact Ext.alloc _ _)
        rw [← hw6]
        clear hw6 c0 c1
        have f1 := (X6.out.cell 1).trans rfl
        have QC := Lib.hid (qleaf_calls x.2 Av cv w6 (HV.out.ext E6.out) (by have := UF2.out.1; omega) (fun v hv => by have := UF2.out.2 v hv; omega))
        obtain ⟨u, hu⟩ : ∃ u, u = Sp.useL x.2 := ⟨_, rfl⟩
        rw [← hu] at QC UT
        obtain ⟨a1, a2, a3, a4⟩ := u
        clear hu
        go_wp2_with fail
        refine (show Calls Tryz.prog 57 #[.slice Av x.2.length cv] w6 fun e w' => e = .returned (.agg #[.int .i64 a1, .int .i64 a2, .int .i64 a3, .int .i64 a4]) ∧ Ext w6 w' from QC.out).mono ?_
        rintro e w7 ⟨rfl, hb7⟩
        have E7 := Lib.hid (E6.out.trans hb7)
        have B7 := Lib.hid (HB.out.trans E7.out)
        clear hb7 f1
        have tokA : True := trivial
        go_wp2_with (have _t := tokA; at_builtin; refine app_new appUse rfl _ _ rfl w1.heap.size _ (pre.length + k) _ rfl (own_ext HO.out E7.out) #[.int .i64 a1, .int .i64 a2, .int .i64 a3, .int .i64 a4] 41 1 rfl rfl (by intro u hu; simp at hu; rcases hu with rfl | rfl | rfl | rfl <;> rfl) (by decide) (by omega) B7.out.size ?_; intro g4 cap4 w8 hown4 hgr4 hb4 hbg4; have O8 := Lib.hid hown4; have G8 := Lib.hid hgr4; have H8 := Lib.hid hb4; clear tokA _t hown4 hgr4 hb4 hbg4)
        have KA := Lib.hid (show KB useT w1.heap.size wr w8 from (KB.ext HB.out.size E7.out).trans (KB.grown (own_ext HO.out E7.out) rfl G8.out H8.out))
        go_roundw
        case rel =>
          refine ⟨k + 1, by omega, by go_num, ?_, HE.out.keep (by intro h; cases h) (by intro h; cases h) (by intro h; cases h) KA.out, Below.trans B7.out H8.out⟩
          rw [UT.out, ← List.append_assoc, usesC_snoc]
          exact O8.out
        case measure => simp [intOf]; omega
      · obtain rfl : k = U.length := by omega
        rw [List.take_of_length_le (by rw [UL.out]; exact Nat.le_refl _), ← OU.out] at HO
        have QL : (Sp.ofU o m d).length = pre.length + U.length := by rw [OU.out, List.length_append, UL.out]
        have QS := Lib.hid (show ∀ u ∈ Sp.ofU o m d, Sp.Small 100000 u from fun u hu => by
          rw [OU.out] at hu
          rcases List.mem_append.1 hu with h | h
          · exact PS.out u h
          · exact US.out u h)
        obtain ⟨q, hq⟩ : ∃ q, q = Sp.ofU o m d := ⟨_, rfl⟩
        rw [← hq] at HO QL QS
        have HQ := Lib.hid hq
        obtain ⟨A9, c9, e9, h9⟩ := own_read HO.out
        subst e9
        have C9 := Lib.hid (show Uses wr A9 q from h9)
        have QL2 : q.length ≤ 1000 := by omega
        have SC := Lib.hid fun W (e : Ext wr W) => qsum_calls q A9 c9 W (C9.out.ext e) (by omega) (fun u hu => (QS.out u hu).mono (by decide))
        have X9 := Lib.hid (X1.out.below HB.out)
        have qe := Lib.hid QL
        rw [← QL]
        have HQL : (q.length : Int) ≤ 1000 := by omega
        obtain ⟨sm, hsm⟩ : ∃ sm, sm = Sp.useSum q := ⟨_, rfl⟩
        rw [← hsm] at SC
        have HSM := Lib.hid hsm
        obtain ⟨a1, a2, a3, a4⟩ := sm
        clear ho he hb hq hsm h9 QL
        go_wp2_with fail
        refine (show Calls Tryz.prog 59 #[.slice A9 q.length c9] wr fun e w' => e = .returned (.agg #[.int .i64 a1, .int .i64 a2, .int .i64 a3, .int .i64 a4]) ∧ Ext wr w' from SC.out wr (Ext.refl _)).mono ?_
        rintro e wz ⟨rfl, hbz⟩
        have Z2 := Lib.hid (X9.out.below hbz)
        have E2 := Lib.hid (E1.out.trans (HB.out.trans hbz))
        have r0 := (Z2.out.cell 0).trans rfl
        have r1 := (Z2.out.cell 1).trans rfl
        have r2 := (Z2.out.cell 2).trans rfl
        have r3 := (Z2.out.cell 3).trans rfl
        have g0 := Z2.out.frozen 0
        have g1 := Z2.out.frozen 1
        have g2 := Z2.out.frozen 2
        have g3 := Z2.out.frozen 3
        clear hbz
        go_wp2
        refine bodyPost_ret (results_cell_row rfl _ _ w.heap.size 41 #[.int .i64 a1, .int .i64 a2, .int .i64 a3, .int .i64 a4] (0, 0) _ rfl ((((Z2.out.put 0 _ rfl).put 1 _ rfl).put 2 _ rfl).put 3 _ rfl) Tryz.underlying41 rfl (by kernel_rfl)) rfl ?_
        exact ⟨by rw [← HQ.out, ← HSM.out]; rfl, (((E2.out.setCell (p := ⟨w.heap.size, 0, none⟩) (by simp) _).setCell (p := ⟨w.heap.size, 1, none⟩) (by simp) _).setCell (p := ⟨w.heap.size, 2, none⟩) (by simp) _).setCell (p := ⟨w.heap.size, 3, none⟩) (by simp) _⟩
end Go.Proofs.YteiblfcehlibpaaGreatDoor
namespace Go.Proofs.YteiblfcehlibpaaGreatDoor
open Go.RowKit Go.Shelf
attribute [local go_sem] yUpon strOf_toList
namespace Sp
def inS (p d : Bs) : Bool := decide (d = []) || decide (p = d) || under p d
end Sp
theorem Only.cell {g k i : Nat} {u : Value} {w w' : World} (h : Only g w w') (hn : k ≠ g) (c : w.cell? ⟨k, i, none⟩ = some u) : w'.cell? ⟨k, i, none⟩ = some u :=
  (World.cell?_of_block (h.block k (World.block_lt_of_cell? w _ c) hn)).trans c
namespace Sp
def inUses (m : List DE) (d : Bs) : List Use := (m.filter fun e => inS e.1 d).map fun e => useL e.2
theorem inUses_len (m : List DE) (d : Bs) : (inUses m d).length ≤ m.length := by
  unfold inUses
  rw [List.length_map]
  exact List.length_filter_le _ _
theorem inUses_small {m : List DE} (hf : ∀ e ∈ m, Fits e.2) (d : Bs) : Small (m.length * 100000) (useSum (inUses m d)) := by
  refine (useSum_small (inUses m d) (n := 100000) fun u hu => ?_).mono (Nat.mul_le_mul_right _ (inUses_len m d))
  unfold inUses at hu
  obtain ⟨e, he, rfl⟩ := List.mem_map.1 hu
  exact useL_small (hf e (List.mem_filter.1 he).1)
end Sp
end Go.Proofs.YteiblfcehlibpaaGreatDoor
namespace Go.Proofs.YteiblfcehlibpaaGreatDoor
open Go.RowKit Go.Shelf
attribute [local go_sem] yUpon strOf_toList
namespace Sp
def exA : Ver := ⟨(0, 1), [], false, [97, 98, 99]⟩
def exB : Ver := ⟨(0, 2), [], false, [100]⟩
def exC : Ver := ⟨(1, 1), [], false, [101]⟩
def ex45 : List DE := [([97, 47, 120], [exA]), ([98], [exB, exC])]
theorem ex45_code : (ofT none ex45).2 = 0 := by decide +kernel
theorem ex45_use : useSum (ofU (ofT none ex45).1 (rof [] ex45).1 []) = (2, 5, 1, 0) := by decide +kernel
end Sp
theorem ver_one {w : World} {g : Nat} {t : TypeId} (v : Sp.Ver) (hv : v.past = []) (h : isBlk w g t (verC none 0 v)) : Vers w (some ⟨g, 0, none⟩) [v] :=
  ⟨[(none, 0, v)], rfl, fun _ => ⟨g, 0, rfl, fun i u hi => by
    rw [Nat.zero_add, h.cell i]
    have : (verC none 0 v).toList ++ [] = (verC none 0 v).toList := List.append_nil _
    rw [versC, versC, this] at hi
    simpa using hi⟩, fun x hx => by
    obtain rfl := List.mem_singleton.1 hx
    exact ⟨by rw [hv]; exact Cells.nil _ _, by rw [hv]; exact Nat.zero_le _⟩⟩
theorem ver_two {w : World} {g : Nat} {t : TypeId} (v u : Sp.Ver) (hv : v.past = []) (hu : u.past = []) (h : isBlk w g t ((verC none 0 v).toList ++ (verC none 0 u).toList).toArray) : Vers w (some ⟨g, 0, none⟩) [v, u] :=
  ⟨[(none, 0, v), (none, 0, u)], rfl, fun _ => ⟨g, 0, rfl, fun i x hi => by
    rw [Nat.zero_add, h.cell i]
    have : (verC none 0 u).toList ++ [] = (verC none 0 u).toList := List.append_nil _
    rw [versC, versC, versC, this] at hi
    simpa using hi⟩, fun x hx => by
    rcases List.mem_cons.1 hx with rfl | hx
    · exact ⟨by rw [hv]; exact Cells.nil _ _, by rw [hv]; exact Nat.zero_le _⟩
    · obtain rfl := List.mem_singleton.1 hx
      exact ⟨by rw [hu]; exact Cells.nil _ _, by rw [hu]; exact Nat.zero_le _⟩⟩
theorem bslice_two {P : Program} {ops : Array Oper} {rest : List Oper} {o : Oper} {a : Act} {w : World} {Q : Exit → Act → World → Prop} (hg : o.guard = none) (t e : TypeId) (x y : Operand) (ho : o.op = .buildSlice t 2 #[(0, x), (1, y)]) {size bytes : Nat} (hst : AppStat P t e size bytes) (hs : size ≤ 1000)
    (c0 c1 : Array Value) (hx : (a.eval x).cells = c0) (hy : (a.eval y).cells = c1) (h0 : c0.size = size) (h1 : c1.size = size)
    (h : wpList P ops Q rest (a.put o.dst (.slice (some ⟨w.heap.size, 0, none⟩) 2 2)) (w.alloc (.cells (c0.toList ++ c1.toList).toArray e))) : wpList P ops Q (o :: rest) a w := by
  obtain ⟨hu, hz0, _, i, zz, hi, hz, hsz, _, hzs⟩ := hst
  refine wpList_buildSlice hg t e 2 #[(0, x), (1, y)] ho (c0.toList ++ c1.toList).toArray i zz hu hi hz (by rw [hsz]; omega) (by rw [hsz]; omega) ?_ h
  have := Great.fill_whole (s := i.size) (by omega) [a.eval x, a.eval y] ((Array.range (2 * i.size)).map (zz.cells[· % zz.cells.size]!)) (by
    intro v hv
    simp only [List.mem_cons, List.not_mem_nil, or_false] at hv
    rcases hv with rfl | rfl
    · rw [hx, h0, hsz]
    · rw [hy, h1, hsz]) (by simp)
  simpa [hx, hy] using this
set_option maxRecDepth 100000 in
set_option maxHeartbeats 4000000 in
theorem awake45_calls (w : World) (K : KeysAt w 4) (M : MaxAt w) :
    Calls Tryz.prog 24 #[] w fun e w' => e = .returned (.bool true) ∧ Ext w w' := by
  have KK := Lib.hid K
  have MM := Lib.hid M
  have tok : True := trivial
  have tok2 : True := trivial
  have tok3 : True := trivial
  clear K M
  go_enter Tryz.func24, Tryz.ntmps24
  go_wp2_with (first
    | (have _t := tok; (with_reducible refine at_bslice rfl ?_); refine bslice_new rfl 49 75 _ rfl appVer (by decide) (verC none 0 Sp.exA) rfl rfl ?_; intro gv wv hgv hxv hbv; have XV := Lib.hid hxv; have BV := Lib.hid hbv; clear tok _t hgv hxv hbv)
    | (have _t := tok2; (with_reducible refine at_bslice rfl ?_); refine bslice_two rfl 49 75 _ _ rfl appVer (by decide) (verC none 0 Sp.exB) (verC none 0 Sp.exC) rfl rfl rfl rfl ?_; clear tok2 _t)
    | (have _t := tok3; (with_reducible refine at_bslice rfl ?_); refine bslice_two rfl 22 51 _ _ rfl appEnt (by decide) #[.string (strOf [97, 47, 120]), .slice (some ⟨gv, 0, none⟩) 1 1] #[.string (strOf [98]), .slice (some ⟨wv.heap.size, 0, none⟩) 2 2] rfl rfl rfl rfl ?_; clear tok3 _t))
  obtain ⟨w0, hw0⟩ : ∃ w0, w0 = wv.alloc (.cells ((verC none 0 Sp.exB).toList ++ (verC none 0 Sp.exC).toList).toArray 75) := ⟨_, rfl⟩
  have X0 := (show isBlk w0 wv.heap.size 75 ((verC none 0 Sp.exB).toList ++ (verC none 0 Sp.exC).toList).toArray by rw [hw0]; exact box_at wv _ _)
  have E0 := Lib.hid (show Ext wv w0 by rw [hw0]; exact Ext.alloc _ _)
  have S0 := Lib.hid (show w0.heap.size = wv.heap.size + 1 by rw [hw0, World.size_alloc])
  obtain ⟨w1, hw1⟩ : ∃ w1, w1 = w0.alloc (.cells #[.string (strOf [97, 47, 120]), .slice (some ⟨gv, 0, none⟩) 1 1, .string (strOf [98]), .slice (some ⟨wv.heap.size, 0, none⟩) 2 2] 51) := ⟨_, rfl⟩
  have X1 := (show isBlk w1 (wv.heap.size + 1) 51 #[.string (strOf [97, 47, 120]), .slice (some ⟨gv, 0, none⟩) 1 1, .string (strOf [98]), .slice (some ⟨wv.heap.size, 0, none⟩) 2 2] by rw [hw1, ← S0.out]; exact box_at w0 _ _)
  have E1 := Lib.hid (show Ext w0 w1 by rw [hw1]; exact Ext.alloc _ _)
  have HV := ver_one Sp.exA rfl (XV.out.below (E0.out.trans E1.out))
  have HV2 := ver_two Sp.exB Sp.exC rfl rfl (X0.below E1.out)
  have HE := Lib.hid (show EntsAt w1 (some ⟨wv.heap.size + 1, 0, none⟩) Sp.ex45 from ⟨[(some ⟨gv, 0, none⟩, 1, ([97, 47, 120], [Sp.exA])), (some ⟨wv.heap.size, 0, none⟩, 2, ([98], [Sp.exB, Sp.exC]))], rfl, fun _ => ⟨wv.heap.size + 1, 0, rfl, fun i u hi => by
    rw [Nat.zero_add, X1.cell i]
    rw [show entsC [(some (⟨gv, 0, none⟩ : Addr), 1, (([97, 47, 120], [Sp.exA]) : Sp.DE)), (some ⟨wv.heap.size, 0, none⟩, 2, ([98], [Sp.exB, Sp.exC]))] = [.string (strOf [97, 47, 120]), .slice (some ⟨gv, 0, none⟩) 1 1, .string (strOf [98]), .slice (some ⟨wv.heap.size, 0, none⟩) 2 2] from rfl] at hi
    simpa using hi⟩, fun x hx => by
    simp only [List.mem_cons, List.not_mem_nil, or_false] at hx
    rcases hx with rfl | rfl
    · exact HV
    · exact HV2⟩)
  have B1 := Lib.hid (BV.out.trans (E0.out.trans E1.out))
  have OC := Lib.hid (of_calls Sp.ex45 (some ⟨wv.heap.size + 1, 0, none⟩) 2 w1 HE.out (by decide) (KK.out.ext B1.out) (max_kept MM.out B1.out))
  rw [Sp.ex45_code] at OC
  have BO := Lib.hid (Sp.both_of Sp.ex45)
  have EU := Lib.hid Sp.ex45_use
  obtain ⟨o, ho⟩ : ∃ o, o = (Sp.ofT none Sp.ex45).1 := ⟨_, rfl⟩
  obtain ⟨m, hm⟩ : ∃ m, m = (Sp.rof [] Sp.ex45).1 := ⟨_, rfl⟩
  rw [← ho] at OC BO EU
  rw [← hm] at BO EU
  show Calls Tryz.prog 22 #[.slice (some ⟨wv.heap.size + 1, 0, none⟩) 2 2] ((wv.alloc (.cells ((verC none 0 Sp.exB).toList ++ (verC none 0 Sp.exC).toList).toArray 75)).alloc (.cells #[.string (strOf [97, 47, 120]), .slice (some ⟨gv, 0, none⟩) 1 1, .string (strOf [98]), .slice (some ⟨wv.heap.size, 0, none⟩) 2 2] 51)) _
  rw [← hw0, ← hw1]
  clear hw0 hw1 X0 X1 HV HV2 ho hm
  refine OC.out.mono ?_
  rintro e w2 ⟨v2, rfl, ht2, hb2⟩
  have T2 := Lib.hid ht2
  have B2 := Lib.hid (B1.out.trans hb2)
  clear ht2 hb2
  have QC := Lib.hid (qof_calls o v2 m BO.out [] w2 T2.out (KK.out.ext B2.out) (max_kept MM.out B2.out))
  rw [EU.out] at QC
  obtain ⟨ap, rfl⟩ := tree_ptr T2.out
  go_wp2_with fail
  refine (show Calls Tryz.prog 25 #[.pointer ap, .string (strOf [])] w2 fun e w' => e = .returned (.agg #[.int .i64 2, .int .i64 5, .int .i64 1, .int .i64 0]) ∧ Ext w2 w' from QC.out).mono ?_
  rintro e w3 ⟨rfl, hb3⟩
  go_wp2
  go_ret
  exact ⟨rfl, B2.out.trans hb3⟩
end Go.Proofs.YteiblfcehlibpaaGreatDoor
namespace Go.Proofs.YteiblfcehlibpaaGreatDoor
open Go.RowKit
namespace Sp
theorem useFold (l : List Use) : ∀ a : Use, l.foldl useA a = (a.1 + (l.map fun u => u.1).sum, a.2.1 + (l.map fun u => u.2.1).sum, a.2.2.1 + (l.map fun u => u.2.2.1).sum, a.2.2.2 + (l.map fun u => u.2.2.2).sum) := by
  induction l with
  | nil => intro a; rfl
  | cons u r ih =>
    intro a
    rw [List.foldl_cons, ih]
    simp only [useA, List.map_cons, List.sum_cons, Nat.add_assoc]
theorem useSum_eq (l : List Use) : useSum l = ((l.map fun u => u.1).sum, (l.map fun u => u.2.1).sum, (l.map fun u => u.2.2.1).sum, (l.map fun u => u.2.2.2).sum) := by
  unfold useSum
  rw [useFold]
  simp [useZ]
theorem node_get {o : Option T} {m : List DE} (h : Both o m) {d : Bs} (hd : d ≠ []) : (nodeS (o.getD .nil) d).1 = rget m d := by
  by_cases hp : parts d = []
  · have hc : check d ≠ 0 := fun h => by
      have h2 := (check_parts h).1
      rw [hp] at h2
      exact split_ne d h2.symm
    rw [rget_bad h.gm.1 hc]
    have : findS (o.getD .nil) d = none := by unfold findS; rw [if_neg hd, if_pos hp]
    rw [nodeS, this]
  · have hdir : Dir d := .inr (check_of_parts hp)
    obtain ⟨f1, f2⟩ := at_both h.eq h.go h.gm d hdir
    have hs : findS (o.getD .nil) d = findT (o.getD .nil) (parts d) := by unfold findS; rw [if_neg hd, if_neg hp]
    rw [nodeS, hs]
    cases hf : findT (o.getD .nil) (parts d) with
    | none =>
      rw [hf] at f1
      rw [get_subs m h.gm.1 d hdir, f1]
      rfl
    | some s =>
      obtain ⟨g1, g2, g3⟩ := f2 s hf
      rw [g2]
      exact nodeT_leaf s
theorem get_sum (f : List Ver → Nat) (f0 : f [] = 0) (d : Bs) : ∀ m : List DE, RiseE (toP m) → ((m.filter fun e => decide (e.1 = d)).map fun e => f e.2).sum = f (rget m d)
  | [], _ => by rw [rget, f0]; rfl
  | e :: r, hr => by
    have hr' : RiseE (toP r) := (List.pairwise_cons.1 hr).2
    rw [rget]
    by_cases h : e.1 = d
    · rw [if_pos h, List.filter_cons_of_pos (by simpa using h)]
      have : r.filter (fun e => decide (e.1 = d)) = [] := by
        rw [List.filter_eq_nil_iff]
        intro x hx hx2
        have h1 := (List.pairwise_cons.1 hr).1 (split x.1, x.2) (List.mem_map.2 ⟨x, hx, rfl⟩)
        have h2 : x.1 = d := by simpa using hx2
        simp only [h2, h, cmpP_self] at h1
        cases h1
      rw [this]; simp
    · rw [if_neg h, List.filter_cons_of_neg (by simpa using h)]
      exact get_sum f f0 d r hr'
theorem under_self (d : Bs) : under d d = false := by
  cases h : under d d with
  | false => rfl
  | true => have := (under_parts h).2.2.1; omega
theorem under_top {p : Bs} (h : check p = 0) : under p [] = true := by
  have h1 := (check_parts h).1
  have h2 := split_ne p
  refine under_of ⟨by rw [h1]; exact h2, .inl rfl, ?_, ?_⟩
  · rw [parts_empty, h1]; exact List.length_pos_iff.2 h2
  · rw [parts_empty]; rfl
theorem in_split (f : List Ver → Nat) {d : Bs} (hd : d ≠ []) : ∀ m : List DE, ((m.filter fun e => inS e.1 d).map fun e => f e.2).sum = ((m.filter fun e => decide (e.1 = d)).map fun e => f e.2).sum + ((m.filter fun e => under e.1 d).map fun e => f e.2).sum
  | [] => rfl
  | e :: r => by
    have ih := in_split f hd r
    by_cases h : e.1 = d
    · have hu : under e.1 d = false := by rw [h]; exact under_self d
      have hi : inS e.1 d = true := by unfold inS; simp [h]
      rw [List.filter_cons_of_pos (by simpa using hi), List.filter_cons_of_pos (by simpa using h), List.filter_cons_of_neg (by simpa using hu), List.map_cons, List.sum_cons, List.map_cons, List.sum_cons, ih]
      omega
    · cases hu : under e.1 d with
      | true =>
        have hi : inS e.1 d = true := by unfold inS; simp [hu]
        rw [List.filter_cons_of_pos (by simpa using hi), List.filter_cons_of_neg (by simpa using h), List.filter_cons_of_pos (by simpa using hu), List.map_cons, List.sum_cons, List.map_cons, List.sum_cons, ih]
        omega
      | false =>
        have hi : inS e.1 d = false := by unfold inS; simp [hu, h, hd]
        rw [List.filter_cons_of_neg (by simpa using hi), List.filter_cons_of_neg (by simpa using h), List.filter_cons_of_neg (by simpa using hu), ih]
theorem use_sum (f : List Ver → Nat) (f0 : f [] = 0) {o : Option T} {m : List DE} (h : Both o m) (d : Bs) :
    (if d ≠ [] then f (nodeS (o.getD .nil) d).1 else 0) + ((wunder m d).map fun e => f e.2).sum = ((m.filter fun e => inS e.1 d).map fun e => f e.2).sum := by
  by_cases hd : d = []
  · subst hd
    rw [if_neg (by simp), Nat.zero_add]
    congr 2
    unfold wunder
    refine List.filter_congr fun e he => ?_
    rw [under_top (h.gm.1 e he)]
    unfold inS
    simp
  · rw [if_pos hd, in_split f hd, get_sum f f0 d m h.rise, node_get h hd]
    rfl
theorem useL_nil : useL [] = useZ := rfl
/-- What a directory uses is what the document says. -/
theorem use_both {o : Option T} {m : List DE} (h : Both o m) (d : Bs) : useSum (ofU o m d) = useSum (inUses m d) := by
  have key : ∀ π : Use → Nat, π useZ = 0 → ((ofU o m d).map π).sum = ((inUses m d).map π).sum := by
    intro π hπ
    have := use_sum (fun l => π (useL l)) (by rw [useL_nil]; exact hπ) h d
    unfold ofU inUses ofPre
    rw [List.map_append, List.sum_append, List.map_map, List.map_map]
    rw [show (π ∘ fun e : DE => useL e.2) = fun e => π (useL e.2) from rfl, ← this]
    congr 1
    split <;> simp
  rw [useSum_eq, useSum_eq, key _ rfl, key _ rfl, key _ rfl, key _ rfl]
end Sp
end Go.Proofs.YteiblfcehlibpaaGreatDoor
namespace Go.Proofs.YteiblfcehlibpaaGreatDoor
open Go.RowKit
namespace Sp
def firsts (m : List DE) : List Bs := m.map fun e => (parts e.1).getD 0 []
/-- The names right below the root. -/
def tops (m : List DE) : List Bs := ddf (firsts m)
theorem firsts_sorted {m : List DE} (hr : RiseE (toP m)) (hm : Paths m) : (firsts m).Pairwise fun a b => a = b ∨ lessW a b := by
  unfold firsts
  rw [List.pairwise_map]
  have h1 : m.Pairwise fun a b => cmpP (split a.1) (split b.1) = -1 := by
    unfold RiseE toP at hr
    rwa [List.pairwise_map] at hr
  refine List.Pairwise.imp_of_mem ?_ h1
  intro a b ha hb hab
  have ca := check_parts (hm a ha)
  have cb := check_parts (hm b hb)
  have na := split_ne a.1
  have nb := split_ne b.1
  rw [← ca.1] at hab na
  rw [← cb.1] at hab nb
  cases e1 : parts a.1 with
  | nil => exact absurd e1 na
  | cons x r =>
    cases e2 : parts b.1 with
    | nil => exact absurd e2 nb
    | cons y s =>
      rw [e1, e2] at hab
      exact cmpP_head hab
theorem tops_mem {m : List DE} {s : Bs} : s ∈ tops m ↔ ∃ e ∈ m, (parts e.1).getD 0 [] = s := by
  unfold tops
  rw [← dd_ddf]
  constructor
  · intro h
    obtain ⟨e, he, hx⟩ := List.mem_map.1 (dd_sub _ _ _ h)
    exact ⟨e, he, hx⟩
  · rintro ⟨e, he, rfl⟩
    exact (dd_mem _ none _ (List.mem_map.2 ⟨e, he, rfl⟩)).resolve_right (by simp)
theorem tops_len (m : List DE) : (tops m).length ≤ m.length := by
  have := ddf_len (firsts m)
  unfold firsts at this
  rwa [List.length_map] at this
theorem top_parts {m : List DE} (hm : Paths m) {s : Bs} (hs : s ∈ tops m) : check s = 0 ∧ parts s = [s] := by
  obtain ⟨e, he, hg⟩ := tops_mem.1 hs
  have hc := check_parts (hm e he)
  have hn := split_ne e.1
  rw [hc.1] at hg
  cases e1 : split e.1 with
  | nil => exact absurd e1 hn
  | cons x r =>
    rw [e1] at hg
    obtain rfl : x = s := hg
    exact check_prefix (a := [x]) (q := r) (hm e he) e1 (by simp)
theorem top_in {p s : Bs} (hp : check p = 0) (hs : parts s = [s]) : inS p s = decide ((parts p).getD 0 [] = s) := by
  have hc := check_parts hp
  have hn := split_ne p
  have s0 : s ≠ [] := by rintro rfl; rw [parts_empty] at hs; cases hs
  rw [Bool.eq_iff_iff]
  unfold inS
  simp only [Bool.or_eq_true, decide_eq_true_eq]
  constructor
  · rintro ((h | h) | h)
    · exact absurd h s0
    · rw [h, hs]; rfl
    · have h' := under_parts h
      rw [hs] at h'
      cases e1 : parts p with
      | nil => exact absurd e1 h'.1
      | cons x r =>
        rw [e1] at h'
        have := h'.2.2.2
        simp at this
        exact this
  · intro h
    cases e1 : parts p with
    | nil => rw [hc.1] at e1; exact absurd e1 hn
    | cons x r =>
      rw [e1] at h
      obtain rfl : x = s := h
      cases r with
      | nil =>
        left; right
        have h1 := join_split p
        rw [← hc.1, e1] at h1
        exact h1.symm
      | cons y r =>
        right
        refine under_of ⟨by rw [e1]; simp, .inr (by rw [hs]; simp), by rw [hs, e1]; simp, by rw [hs, e1]; rfl⟩
theorem sum_pick (x : Bs) (c : Nat) : ∀ (L : List Bs), L.Pairwise lessW → (L.map fun s => if s = x then c else 0).sum = if x ∈ L then c else 0
  | [], _ => rfl
  | s :: r, h => by
    obtain ⟨h1, h2⟩ := List.pairwise_cons.1 h
    rw [List.map_cons, List.sum_cons, sum_pick x c r h2]
    by_cases hs : s = x
    · subst hs
      have : s ∉ r := fun hh => lessW_irr s (h1 s hh)
      simp [this]
    · have hs' : ¬ x = s := fun e => hs e.symm
      simp [hs, hs']
theorem sum_add (f g : Bs → Nat) : ∀ M : List Bs, (M.map fun s => f s + g s).sum = (M.map f).sum + (M.map g).sum
  | [] => rfl
  | s :: M => by
    rw [List.map_cons, List.sum_cons, List.map_cons, List.sum_cons, List.map_cons, List.sum_cons, sum_add f g M]
    omega
theorem sum_by (L : List Bs) (hL : L.Pairwise lessW) (g : DE → Bs) (f : DE → Nat) : ∀ (m : List DE), (∀ e ∈ m, g e ∈ L) → (L.map fun s => ((m.filter fun e => decide (g e = s)).map f).sum).sum = (m.map f).sum
  | [], _ => by
    clear hL
    induction L with
    | nil => rfl
    | cons a r ih => simpa using ih
  | e :: r, h => by
    have ih := sum_by L hL g f r fun y hy => h y (List.mem_cons_of_mem _ hy)
    have h1 := sum_pick (g e) (f e) L hL
    rw [if_pos (h e (List.mem_cons_self ..))] at h1
    have h2 : (fun s => (((e :: r).filter fun e => decide (g e = s)).map f).sum) = fun s => (if s = g e then f e else 0) + ((r.filter fun e => decide (g e = s)).map f).sum := by
      funext s
      by_cases hs : g e = s
      · rw [List.filter_cons_of_pos (by simpa using hs), if_pos hs.symm, List.map_cons, List.sum_cons]
      · rw [List.filter_cons_of_neg (by simpa using hs), if_neg (fun e => hs e.symm), Nat.zero_add]
    rw [h2, sum_add, h1, ih, List.map_cons, List.sum_cons]
theorem inUses_root (m : List DE) : inUses m [] = m.map fun e => useL e.2 := by
  unfold inUses
  rw [List.filter_eq_self.2 fun e _ => by unfold inS; simp]
/-- The root uses what its directories and the files right below it use, together. -/
theorem tops_use {m : List DE} (hr : RiseE (toP m)) (hm : Paths m) : useSum ((tops m).map fun s => useSum (inUses m s)) = useSum (inUses m []) := by
  have key : ∀ π : Use → Nat, (∀ l, π (useSum l) = (l.map π).sum) → (((tops m).map fun s => useSum (inUses m s)).map π).sum = ((inUses m []).map π).sum := by
    intro π hπ
    rw [List.map_map, inUses_root, List.map_map]
    have h1 : ∀ s ∈ tops m, (π ∘ fun s => useSum (inUses m s)) s = ((m.filter fun e => decide ((parts e.1).getD 0 [] = s)).map fun e => π (useL e.2)).sum := by
      intro s hs
      show π (useSum (inUses m s)) = _
      rw [hπ]
      unfold inUses
      rw [List.map_map]
      congr 2
      exact List.filter_congr fun e he => top_in (hm e he) (top_parts hm hs).2
    rw [List.map_congr_left h1]
    exact sum_by (tops m) (ddf_less (firsts_sorted hr hm)) (fun e => (parts e.1).getD 0 []) (fun e => π (useL e.2)) m fun e he => tops_mem.2 ⟨e, he, rfl⟩
  rw [useSum_eq ((tops m).map _), useSum_eq (inUses m [])]
  rw [key (fun u => u.1) (fun l => by rw [useSum_eq]), key (fun u => u.2.1) (fun l => by rw [useSum_eq]), key (fun u => u.2.2.1) (fun l => by rw [useSum_eq]), key (fun u => u.2.2.2) (fun l => by rw [useSum_eq])]
theorem files_shown : ∀ m : List DE, (useSum (inUses m [])).1 = (shownM m).length := by
  intro m
  rw [inUses_root, useSum_eq]
  show ((m.map fun e => useL e.2).map fun u => u.1).sum = _
  rw [List.map_map]
  induction m with
  | nil => rfl
  | cons e r ih =>
    rw [List.map_cons, List.sum_cons, ih]
    have h0 : ((fun u : Use => u.1) ∘ fun e : DE => useL e.2) e = min (live e.2).length 1 := rfl
    rw [h0]
    unfold shownM
    rw [List.filterMap_cons]
    by_cases hl : live e.2 = []
    · simp [hl]
    · have := List.length_pos_iff.2 hl
      simp only [if_neg hl, List.length_cons]
      omega
theorem count_le {s : Bs} : ∀ N : List Bs, N.Pairwise lessW → (N.filter fun y => decide (y = s)).length ≤ 1
  | [], _ => Nat.zero_le _
  | x :: r, h => by
    obtain ⟨h1, h2⟩ := List.pairwise_cons.1 h
    by_cases hx : x = s
    · subst hx
      rw [List.filter_cons_of_pos (by simp)]
      have : r.filter (fun y => decide (y = x)) = [] := by
        rw [List.filter_eq_nil_iff]
        intro y hy hyx
        have : y = x := by simpa using hyx
        subst this
        exact lessW_irr y (h1 y hy)
      rw [this]; simp
    · rw [List.filter_cons_of_neg (by simpa using hx)]
      exact count_le r h2
theorem sum_ones (f : Bs → Nat) (hf : ∀ s, f s ≤ 1) : ∀ L : List Bs, (L.map f).sum ≤ L.length
  | [] => Nat.le_refl _
  | s :: L => by
    have := sum_ones f hf L
    have := hf s
    rw [List.map_cons, List.sum_cons, List.length_cons]; omega
theorem dirs_tops {m : List DE} (hr : RiseE (toP m)) (hm : Paths m) : (dirsS m []).length ≤ (tops m).length := by
  have hd := ddf_less (dnames_sorted hr hm [])
  have h1 := sum_counts (tops m) (ddf_less (firsts_sorted hr hm)) (dirsS m []) fun x hx => by
    obtain ⟨e, he, _, hg⟩ := dirsS_mem.1 hx
    exact tops_mem.2 ⟨e, (List.mem_filter.1 he).1, by rw [parts_empty] at hg; exact hg⟩
  rw [← h1]
  exact sum_ones _ (fun s => count_le _ hd) _
end Sp
end Go.Proofs.YteiblfcehlibpaaGreatDoor
namespace Go.Proofs.YteiblfcehlibpaaGreatDoor
open Go.RowKit
section
variable {P : Program} {md : Region.Mode} {ops : Array Oper} {T : World → Prop}
def planB (md : Region.Mode) (ops : Array Oper) (m : Nat) (B : Array Bool → Bool) : List (Bool × Nat) → Array Bool → Bool
  | [], listed => B listed
  | (true, k) :: r, listed => decide (k < m) && (Region.ready md ops listed).contains k && Region.free md ops listed k && planB md ops m B r (listed.setIfInBounds k true)
  | (false, k) :: r, listed => decide (k < m) && decide (Region.ready md ops listed = [k]) && planB md ops m B r (listed.setIfInBounds k true)
def lexPlanB (md : Region.Mode) (ops : Array Oper) (m : Nat) (plan : List (Bool × Nat)) : Bool :=
  Region.noSelect ops && decide (m < ops.size) && decide (plan.length = m) && sinkFrom md ops 0 m && behindB md ops m && planB md ops m (Region.seqB md ops (ops.size - m) m) plan (Array.replicate ops.size false)
def wpPlanT (P : Program) (ops : Array Oper) (T : World → Prop) (Q : Exit → Act → World → Prop) (tl : List Oper) : List (Bool × Nat) → Act → World → Prop
  | [], a, w => wpList P ops (goesOn Q) tl a w
  | (true, k) :: r, a, w => ∃ o v, ops[k]? = some o ∧ YieldsT P ops T o v a ∧ wpPlanT P ops T Q tl r (a.put o.dst v) w
  | (false, k) :: r, a, w => ∃ o, ops[k]? = some o ∧ wpList P ops (fun e a w => e = .normal ∧ T w ∧ wpPlanT P ops T Q tl r a w) [o] a w
theorem plan_nil {Q : Exit → Act → World → Prop} {tl : List Oper} {a : Act} {w : World} (h : wpList P ops (goesOn Q) tl a w) : wpPlanT P ops T Q tl [] a w := h
theorem plan_float {Q : Exit → Act → World → Prop} {tl : List Oper} {k : Nat} {r : List (Bool × Nat)} {a : Act} {w : World} {o : Oper} (h0 : ops[k]? = some o)
    (h : ∀ K : Act → Prop, (∀ a, wpPlanT P ops T Q tl r a w → K a) → ∃ v, YieldsT P ops T o v a ∧ K (a.put o.dst v)) : wpPlanT P ops T Q tl ((true, k) :: r) a w := by
  obtain ⟨v, h1, h2⟩ := h _ fun _ h => h
  exact ⟨o, v, h0, h1, h2⟩
theorem plan_only {Q : Exit → Act → World → Prop} {tl : List Oper} {k : Nat} {r : List (Bool × Nat)} {a : Act} {w : World} {o : Oper} (h0 : ops[k]? = some o)
    (h : ∀ Q' : Exit → Act → World → Prop, (∀ a w, T w → wpPlanT P ops T Q tl r a w → Q' .normal a w) → wpList P ops Q' [o] a w) : wpPlanT P ops T Q tl ((false, k) :: r) a w :=
  ⟨o, h0, h _ fun _ _ h1 h2 => ⟨rfl, h1, h2⟩⟩
theorem wpAnyT_of_plan {m : Nat} {Q : Exit → Act → World → Prop} (hsel : Region.noSelect ops = true) (hs : sinkFrom md ops 0 m = true) (hc : behindB md ops m = true) (hms : m < ops.size) (tl : List Oper) (htl : ∀ j, tl[j]? = ops[m + j]?) :
    ∀ (plan : List (Bool × Nat)) (listed : Array Bool) (a : Act) (w : World), T w → HeadInv md ops m listed →
      planB md ops m (Region.seqB md ops tl.length m) plan listed = true → wpPlanT P ops T Q tl plan a w → wpAnyT P md ops T m (goesOn Q) (plan.length + tl.length) listed a w
  | [], listed, a, w, _, _, hB, h => by
    rw [List.length_nil, Nat.zero_add]
    exact wpAnyT_of_seq tl m listed a w (Nat.le_refl _) htl hB h
  | (true, k) :: r, listed, a, w, hT, inv, hB, h => by
    obtain ⟨o, v, h0, hy, hK⟩ := h
    simp only [planB, Bool.and_eq_true, decide_eq_true_eq] at hB
    obtain ⟨⟨⟨hk, hr⟩, hf⟩, hB'⟩ := hB
    have hr' : k ∈ Region.ready md ops listed := by simpa using hr
    rw [List.length_cons, show r.length + 1 + tl.length = (r.length + tl.length) + 1 by omega]
    exact wpAnyT_first h0 (Region.noSelect_spec hsel) (fun c a w h => by cases h.1) (I := HeadInv md ops m) (fun listed j inv hj hjm => inv.set hj hjm)
      (fun listed inv hun t ht => tail_waits3 hs hc hms inv _ k rfl (Nat.zero_le _) hk hun t ht) (r.length + tl.length) listed a w hT inv (Region.free_spec h0 hf) hr' hy
      (wpAnyT_of_plan hsel hs hc hms tl htl r _ _ w hT (inv.set hr' hk) hB' hK)
  | (false, k) :: r, listed, a, w, hT, inv, hB, h => by
    obtain ⟨o, h0, hK⟩ := h
    simp only [planB, Bool.and_eq_true, decide_eq_true_eq] at hB
    obtain ⟨⟨hk, hr⟩, hB'⟩ := hB
    have hr' : k ∈ Region.ready md ops listed := by rw [hr]; exact List.mem_singleton.2 rfl
    rw [List.length_cons, show r.length + 1 + tl.length = (r.length + tl.length) + 1 by omega]
    refine ⟨fun h1 => (by rw [hr] at h1; cases h1), fun i hi => ?_⟩
    rw [hr] at hi
    obtain rfl : i = k := by simpa using hi
    exact wpOp_of_one h0 (fun e a w h => h.1) (fun a2 w2 h2 => ⟨fun _ => h2.2.1, wpAnyT_of_plan hsel hs hc hms tl htl r _ a2 w2 h2.2.1 (inv.set hr' hk) hB' h2.2.2⟩) hK
/-- The first m operations by a plan; then a tail in its own order. -/
theorem wp_region_planT (T : World → Prop) {id : Nat} {Q : Exit → Act → World → Prop} {a : Act} {w : World} {l : List Oper} (m : Nat) (plan : List (Bool × Nat)) (hm : P.follows .mixedOrders = true) (hB : lexPlanB .any l.toArray m plan = true)
    (hT : T w.drew) (h : wpPlanT P l.toArray T Q (l.drop m) plan a w.drew) : (Code.region id l.toArray true).wp P Q a w := by
  simp only [lexPlanB, Bool.and_eq_true, decide_eq_true_eq] at hB
  obtain ⟨⟨⟨⟨⟨hsel, hms⟩, hpl⟩, hs⟩, hc⟩, hlex⟩ := hB
  have hms' : m < l.length := by simpa using hms
  have hdl : (l.drop m).length = l.toArray.size - m := by simp
  refine Code.wp_mono (Q := goesOn Q) (fun e a w h => by obtain ⟨rfl, h⟩ := h; exact h) (wp_region_any hm (wpAny_of_T (T := T) (m := m) _ _ _ _ ?_))
  have := wpAnyT_of_plan (P := P) (T := T) (Q := Q) hsel hs hc hms (l.drop m) (fun j => by simp [List.getElem?_drop]) plan (Array.replicate l.toArray.size false) a w.drew hT
    ⟨by simp, fun j oj _ hl => (by rw [getD_replicate_false] at hl; cases hl), fun t _ ht => getD_in (by simpa using ht) (getD_replicate_false _ _)⟩ (by rw [hdl]; exact hlex) h
  rw [hpl, hdl, show m + (l.toArray.size - m) = l.toArray.size by omega] at this
  exact this
end
end Go.Proofs.YteiblfcehlibpaaGreatDoor
namespace Go.Proofs.YteiblfcehlibpaaGreatDoor
open Go.RowKit Go.Shelf
attribute [local go_sem] yUpon strOf_toList
namespace Sp
theorem tops_take (m : List DE) (k : Nat) (h : k < m.length) : tops (m.take (k + 1)) = nxt (tops (m.take k)) ((parts m[k].1).getD 0 []) := by
  unfold tops firsts
  rw [List.take_succ_eq_append_getElem h, List.map_append, ← ddf_snoc]
  rfl
end Sp
theorem field_use (a : Int) (b c d : Value) (W : World) : (Instr.field 41 (.agg #[.int .i64 a, b, c, d]) 0).run Tryz.prog W = .ok (.int .i64 a) W := by kernel_rfl
set_option maxRecDepth 100000 in
set_option maxHeartbeats 8000000 in
theorem quotaParts_calls (l : List Sp.DE) (A : Option Addr) (cap : Nat) (w : World) (hE : EntsAt w A l) (K : KeysAt w 4) (M : MaxAt w) :
    Calls Tryz.prog 8 #[.slice A l.length cap] w fun e w' => e = .returned (.bool true) ∧ Ext w w' := by
  have KK := Lib.hid K
  have MM := Lib.hid M
  have HE := Lib.hid hE
  have AW := Lib.hid fun W (e : Ext w W) => awake45_calls W (K.ext e) (max_kept M e)
  clear K M hE
  go_enter Tryz.func8, Tryz.ntmps8
  go_wp2_with fail
  refine (great15_calls l A cap 16 w HE.out (by decide)).mono ?_
  rintro e w1 ⟨b, rfl, hgr, hb1⟩
  have B1 := Lib.hid (show Ext w w1 from hb1)
  clear hb1
  cases b with
  | true =>
    go_wp2_with fail
    refine (AW.out w1 B1.out).mono ?_
    rintro e w2 ⟨rfl, hb2⟩
    go_wp2
    go_ret
    exact ⟨rfl, B1.out.trans hb2⟩
  | false =>
    obtain ⟨hl, hp⟩ := hgr rfl
    go_wp2_with fail
    refine (of_calls l A cap w1 (HE.out.ext B1.out) (by omega) (KK.out.ext B1.out) (max_kept MM.out B1.out)).mono ?_
    rintro e w2 ⟨v2, rfl, ht2, hb2⟩
    have T2 := Lib.hid ht2
    have B2 := Lib.hid (B1.out.trans hb2)
    clear ht2 hb2
    have BO := Lib.hid (Sp.both_of l)
    have ML := Lib.hid (show (Sp.rof [] l).1.length ≤ 16 from Nat.le_trans (Sp.rof_len l []) (by simpa using hl))
    obtain ⟨o, ho⟩ : ∃ o, o = (Sp.ofT none l).1 := ⟨_, rfl⟩
    obtain ⟨m, hm⟩ : ∃ m, m = (Sp.rof [] l).1 := ⟨_, rfl⟩
    rw [← ho] at T2 BO
    rw [← hm] at BO ML
    clear ho hm
    have OC := Lib.hid fun d W (e : Ext w2 W) => qof_calls o v2 m BO.out d W (T2.out.ext e) (KK.out.ext (B2.out.trans e)) (max_kept MM.out (B2.out.trans e))
    have EC := Lib.hid fun W (e : Ext w2 W) => entown_calls o v2 W (T2.out.ext e) BO.out.go BO.out.short (KK.out.ext (B2.out.trans e))
    have DC := Lib.hid fun W (e : Ext w2 W) => wdirs_calls o v2 [] W (T2.out.ext e) BO.out.go BO.out.short BO.out.len BO.out.many (KK.out.ext (B2.out.trans e)) (max_kept MM.out (B2.out.trans e))
    rw [BO.out.told] at EC DC
    have SC := Lib.hid fun A c W (h : EntsAt W A m) => rshown_calls m A c W h (Nat.le_trans ML.out (by decide)) BO.out.leaf
    have PL := Lib.hid BO.out.mlen
    have DT := Lib.hid (Sp.dirs_tops BO.out.rise BO.out.gm.1)
    have TU := Lib.hid (Sp.tops_use BO.out.rise BO.out.gm.1)
    have FS := Lib.hid (Sp.files_shown m)
    have UB := Lib.hid fun d => Sp.use_both BO.out d
    have USM := Lib.hid (show ∀ s, Sp.Small 2000000 (Sp.useSum (Sp.inUses m s)) from fun s => (Sp.inUses_small BO.out.fits s).mono (by have := ML.out; omega))
    have TL := Lib.hid (Sp.tops_len m)
    have NE := Lib.hid (show ∀ e ∈ m, Sp.parts e.1 ≠ [] from fun e he => by rw [(Sp.check_parts (BO.out.gm.1 e he)).1]; exact Sp.split_ne _)
    obtain ⟨ap, rfl⟩ := tree_ptr T2.out
    clear hp hl hgr
    go_upto_region 5 with fail
    obtain ⟨w3, hw3⟩ : ∃ w3, w3 = w2.alloc (.cells #[.int .i64 0, .int .i64 0, .int .i64 0, .int .i64 0] 41) := ⟨_, rfl⟩
    have X3 := Lib.hid (show isBlk w3 w2.heap.size 41 #[.int .i64 0, .int .i64 0, .int .i64 0, .int .i64 0] by rw [hw3]; exact box_at w2 _ _)
    have E3 := Lib.hid (show Ext w2 w3 by rw [hw3]; exact Ext.alloc _ _)
    rw [← hw3]
    clear hw3
    go_wp2_with fail
    refine (EC.out w3 E3.out).mono ?_
    rintro e w4 ⟨v4, rfl, hO4, hb4⟩
    obtain ⟨A4, c4, rfl, hE4⟩ := hO4.read
    have OE := Lib.hid hO4
    have EE := Lib.hid hE4
    have X4 := Lib.hid (X3.out.below hb4)
    have E4 := Lib.hid (E3.out.trans hb4)
    clear hO4 hE4 hb4
    go_wp2
    go_loopw [6, 8] (fun v6 v8 wr => ∃ k : Nat, k ≤ m.length ∧ v8 = .int .i64 k ∧ wr.ownsRow w4.heap.size 9 1 v6 (Sp.tops (m.take k)).length (strsC (Sp.tops (m.take k))) ∧ Ext w4 wr) (fun _ v8 _ => m.length - (intOf v8).toNat)
    case atStart => exact ⟨0, Nat.zero_le _, rfl, World.ownsRow_nil _ _ _ _, Ext.refl _⟩
    case round =>
      obtain ⟨k, hk, rfl, hO, hb⟩ := hrel
      by_cases hlt : k < m.length
      · obtain ⟨eb, eo, rfl, he⟩ := EE.out.at (by omega)
        obtain ⟨Av, cv, c0, c1x, c2x⟩ := he k hlt
        have c0 := hb.cell c0
        have ST := Lib.hid (Sp.tops_take m k hlt)
        have nl := Sp.tops_len (m.take k)
        rw [List.length_take] at nl
        have XL := Lib.hid (PL.out _ (List.getElem_mem hlt))
        have XN := Lib.hid (NE.out _ (List.getElem_mem hlt))
        obtain ⟨x, hx⟩ : ∃ x, x = m[k] := ⟨_, rfl⟩
        rw [← hx] at c0 ST XL XN
        obtain ⟨out, hout⟩ : ∃ out, out = Sp.tops (m.take k) := ⟨_, rfl⟩
        rw [← hout] at nl hO ST
        obtain ⟨P, hP⟩ : ∃ P, P = Sp.parts x.1 := ⟨_, rfl⟩
        have PC := Lib.hid fun W => rpparts_calls x.1 W XL.out
        have hP4 := Sp.parts_len x.1
        rw [← hP] at ST PC hP4 XN
        have hP0 := List.length_pos_iff.2 XN.out
        have OO := Lib.hid hO
        have EW := Lib.hid hb
        have b1 : (k : Int) < (m.length : Int) := by omega
        have ml16 := ML.out
        obtain ⟨A8, c8, rfl, _⟩ := own_read hO
        clear he hx hO hb hout hP c1x c2x
        go_wp2_with fail
        refine (PC.out wr).mono ?_
        rintro e w7 ⟨A7, c7, rfl, hN7, hb7⟩
        obtain ⟨pb, po, rfl, hpn⟩ := hN7.at hP0
        have p0 := hpn 0 hP0
        have E7 := Lib.hid (show Ext wr w7 from hb7)
        have O7 := Lib.hid (own_ext OO.out E7.out)
        have b2 : (0 : Int) < (P.length : Int) := by omega
        have ST2 := Lib.hid (show Sp.tops (m.take (k + 1)) = Sp.nxt out (P[0]'hP0) by
          rw [ST.out]
          simp [List.getD_eq_getElem?_getD, hP0])
        obtain ⟨s, hs⟩ : ∃ s, s = P[0]'hP0 := ⟨_, rfl⟩
        rw [← hs] at p0 ST2
        have P0 := Lib.hid (show w7.cell? ⟨pb, po, none⟩ = some (.string (strOf s)) from p0)
        have p1 := P0.out
        clear hN7 hb7 c0 hpn hs p0
        by_cases ho : out = []
        · subst ho
          have ST3 := Lib.hid (show Sp.tops (m.take (k + 1)) = [s] by rw [ST2.out]; rfl)
          have tok : True := trivial
          have E9 := Lib.hid (EW.out.trans E7.out)
          go_wp2_with (have _t := tok; at_builtin; refine app_new appStr rfl _ _ rfl w4.heap.size _ 0 _ rfl O7.out #[.string (strOf s)] 9 1 rfl rfl (by intro u hu; simp at hu; subst hu; rfl) (by decide) (by omega) E9.out.size ?_; intro g9 cap9 w9 hown9 hgr9 hb9 hbg9; have O10 := Lib.hid hown9; have B10 := Lib.hid hb9; clear tok _t hown9 hgr9 hb9 hbg9)
          go_roundw
          case rel =>
            refine ⟨k + 1, by omega, by go_num, ?_, Below.trans E9.out B10.out⟩
            rw [ST3.out]
            exact O10.out
          case measure => simp [intOf]; omega
        · have hpos : 0 < out.length := List.length_pos_iff.2 ho
          obtain ⟨oj, hoj⟩ : ∃ oj, oj = out.length - 1 := ⟨_, rfl⟩
          obtain ⟨g8, c8', e8, hg8⟩ := owned_form O7.out hpos
          cases e8
          have hlast : out.getLast? = some (out[oj]'(by omega)) := by
            rw [List.getLast?_eq_getElem?, ← hoj, List.getElem?_eq_getElem (by omega)]
          obtain ⟨c1, _, _, _⟩ := own_isBlk O7.out oj _ (strsC_get out oj (by omega))
          obtain ⟨y, hy⟩ : ∃ y, y = out[oj]'(by omega) := ⟨_, rfl⟩
          rw [← hy] at hlast c1
          have ST3 := Lib.hid (show Sp.tops (m.take (k + 1)) = if y = s then out else out ++ [s] by
            rw [ST2.out, Sp.nxt, hlast]
            simp only [Option.some.injEq])
          have w1 : IntKind.i64.wrap ((out.length : Int) - 1) = (oj : Int) := by rw [show (out.length : Int) - 1 = (oj : Int) by omega]; exact IntWalk.i64_in _ (by omega)
          have b4 : (oj : Int) < (out.length : Int) := by omega
          have b5 : ((out.length : Int) == 0) = false := by rw [beq_eq_false_iff_ne]; omega
          have b6 : ¬ (out.length : Int) = 0 := by omega
          have E9 := Lib.hid (EW.out.trans E7.out)
          have tok : True := trivial
          clear hoj hlast hy ho
          go_wp2_with (have _t := tok; at_builtin; refine app_new appStr rfl _ _ rfl w4.heap.size _ out.length _ rfl O7.out #[.string (strOf s)] 9 1 rfl rfl (by intro u hu; simp at hu; subst hu; rfl) (by decide) (by omega) E9.out.size ?_; intro g9 cap9 w9 hown9 hgr9 hb9 hbg9; have O10 := Lib.hid hown9; have B10 := Lib.hid hb9; clear tok _t hown9 hgr9 hb9 hbg9)
          · have hne : y ≠ s := by
              have h : (!(y == s)) = true := by assumption
              intro e
              rw [e, beq_self_eq_true] at h
              cases h
            refine ⟨⟨k + 1, by omega, by go_num, ?_, Below.trans E9.out B10.out⟩, by simp [intOf]; omega⟩
            rw [ST3.out, if_neg hne, List.length_append, strsC, List.map_append]
            exact O10.out
          · have heq : y = s := by
              have h : (!(y == s)) = false := by assumption
              have : (y == s) = true := by
                revert h
                cases (y == s) <;> simp
              exact beq_iff_eq.1 this
            refine ⟨⟨k + 1, by omega, by go_num, ?_, E9.out⟩, by simp [intOf]; omega⟩
            rw [ST3.out, if_pos heq]
            exact O7.out
      · obtain rfl : k = m.length := by omega
        rw [List.take_length] at hO
        obtain ⟨w5, hw5⟩ : ∃ w5, w5 = wr := ⟨_, rfl⟩
        rw [← hw5] at hO hb ⊢
        have X5 := Lib.hid (X4.out.below hb)
        have E5 := Lib.hid (E4.out.trans hb)
        have OE5 := Lib.hid (OE.out.keep (T := useT) (by intro h; cases h) (by intro h; cases h) (by intro h; cases h) (KB.ext (Nat.le_refl _) hb))
        have G5 := Lib.hid (show w2.heap.size < w5.heap.size from X5.out.lt)
        have tl := TL.out
        have ml16 := ML.out
        obtain ⟨L, hL⟩ : ∃ L, L = Sp.tops m := ⟨_, rfl⟩
        rw [← hL] at hO DT TU tl
        clear hL TL
        obtain ⟨us, hus⟩ : ∃ us, us = L.map fun s => Sp.useSum (Sp.inUses m s) := ⟨_, rfl⟩
        rw [← hus] at TU
        have UK := Lib.hid (show ∀ k (h : k < L.length), us.take (k + 1) = us.take k ++ [Sp.useSum (Sp.inUses m L[k])] from fun k h => by rw [hus, List.take_succ_eq_append_getElem (by rw [List.length_map]; exact h), List.getElem_map])
        have UL := Lib.hid (show us.length = L.length by rw [hus, List.length_map])
        have UM := Lib.hid (show ∀ u ∈ us, Sp.Small 2000000 u from fun u hu => by
          rw [hus] at hu
          obtain ⟨s, _, rfl⟩ := List.mem_map.1 hu
          exact USM.out s)
        have OL := Lib.hid hO
        obtain ⟨A6, c6, rfl, _⟩ := own_read hO
        clear hO hb hw5 hus X3 X4 E3
        go_wp2
        go_loopw [10] (fun v10 wr => ∃ k : Nat, k ≤ L.length ∧ v10 = .int .i64 k ∧ isBlk wr w2.heap.size 41 (useC (Sp.useSum (us.take k))) ∧ KB useT w2.heap.size w5 wr) (fun v10 _ => L.length - (intOf v10).toNat)
        case atStart => exact ⟨0, Nat.zero_le _, rfl, X5.out, KB.refl _ _ _⟩
        case round =>
          obtain ⟨k, hk, rfl, hx, hb⟩ := hrel
          have HK := Lib.hid hb
          have HB := Lib.hid (show Ext w2 wr from Below.trans E5.out hb.below)
          by_cases hlt : k < L.length
          · have UKK := Lib.hid (UK.out k hlt)
            obtain ⟨A7, c7, e7, hc⟩ := own_read (own_keep (by intro h; cases h) OL.out hb)
            cases e7
            obtain ⟨gl, ol, rfl, hcc⟩ := Nams.at (l := L) (show Nams wr A6 L from hc) (by omega)
            have f0 := hcc k hlt
            obtain ⟨s, hs⟩ : ∃ s, s = L[k] := ⟨_, rfl⟩
            rw [← hs] at f0 UKK
            have NC := Lib.hid f0
            have sm := Sp.useSum_small (us.take k) fun u hu => UM.out u (List.mem_of_mem_take hu)
            rw [List.length_take] at sm
            have S1 := Lib.hid (show Sp.Small 1000000000 (Sp.useSum (us.take k)) from sm.mono (by
              have := Nat.mul_le_mul_right 2000000 (Nat.min_le_left k us.length)
              omega))
            have S2 := Lib.hid (show Sp.Small 1000000000 (Sp.useSum (Sp.inUses m s)) from (USM.out s).mono (by decide))
            have QC := Lib.hid fun W (e : Ext w2 W) => show Calls Tryz.prog 25 #[.pointer ap, .string (strOf s)] W fun e w' => e = .returned (.agg (useC (Sp.useSum (Sp.inUses m s)))) ∧ Ext W w' from by
              have := OC.out s W e
              rwa [UB.out] at this
            have ST := Lib.hid (show Sp.useSum (us.take (k + 1)) = Sp.useA (Sp.useSum (us.take k)) (Sp.useSum (Sp.inUses m s)) by rw [UKK.out, Sp.useSum_snoc])
            have WC := Lib.hid fun W => qwith_calls (Sp.useSum (us.take k)) (Sp.useSum (Sp.inUses m s)) W S1.out S2.out
            obtain ⟨t, ht⟩ : ∃ t, t = Sp.useA (Sp.useSum (us.take k)) (Sp.useSum (Sp.inUses m s)) := ⟨_, rfl⟩
            rw [← ht] at ST WC
            obtain ⟨a, ha⟩ : ∃ a, a = Sp.useSum (us.take k) := ⟨_, rfl⟩
            rw [← ha] at WC hx
            obtain ⟨b, hb'⟩ : ∃ b, b = Sp.useSum (Sp.inUses m s) := ⟨_, rfl⟩
            rw [← hb'] at WC QC
            obtain ⟨a1, a2, a3, a4⟩ := a
            obtain ⟨b1, b2, b3, b4⟩ := b
            obtain ⟨t1, t2, t3, t4⟩ := t
            have HX := Lib.hid (show isBlk wr w2.heap.size 41 #[.int .i64 a1, .int .i64 a2, .int .i64 a3, .int .i64 a4] from hx)
            have QC2 := Lib.hid (show ∀ W, Ext w2 W → Calls Tryz.prog 25 #[.pointer ap, .string (strOf s)] W fun e w' => e = .returned (.agg #[.int .i64 b1, .int .i64 b2, .int .i64 b3, .int .i64 b4]) ∧ Ext W w' from QC.out)
            have WC2 := Lib.hid (show ∀ W, Calls Tryz.prog 38 #[.agg #[.int .i64 a1, .int .i64 a2, .int .i64 a3, .int .i64 a4], .agg #[.int .i64 b1, .int .i64 b2, .int .i64 b3, .int .i64 b4]] W fun e w' => e = .returned (.agg #[.int .i64 t1, .int .i64 t2, .int .i64 t3, .int .i64 t4]) ∧ Ext W w' from WC.out)
            have kb : (k : Int) < (L.length : Int) := by omega
            clear hx hb hc hcc hs f0 sm ht ha hb'
            go_wp2_with fail
            refine wp_region_det_tail (fun W => Ext wr W) 8 (by kernel_rfl) (by kernel_rfl) (Below.refl _ _).drew ?_
            simp only [List.take_succ_cons, List.take_zero, List.drop_succ_cons, List.drop_zero]
            repeat (first
              | (refine det_step (fun K hK => ?_)
                 apply Exists.intro
                 refine ⟨Or.inl ⟨rfl, fun W hS => ?_⟩, ?_⟩
                 · have hz : Ext wr W := hS; have z := HX.out.below hz; have f0 := (z.cell 0).trans rfl; have f1 := (z.cell 1).trans rfl; have f2 := (z.cell 2).trans rfl; have f3 := (z.cell 3).trans rfl; have n0 := hz.cell NC.out
                   go_simp
                   first
                   | exact rfl
                   | exact ⟨rfl, hS⟩
                   | (first | (refine (QC2.out W (HB.out.trans hz)).mono ?_; rintro e w9 ⟨rfl, hb9⟩; exact ⟨rfl, hz.trans hb9⟩) | (refine (WC2.out W).mono ?_; rintro e w9 ⟨rfl, hb9⟩; exact ⟨rfl, hz.trans hb9⟩))
                 go_simp
                 refine hK _ ?_
                 clear hK K)
              | (refine det_step (fun K hK => ?_); refine det_no' rfl ?_; go_simp; refine hK _ ?_; clear hK K))
            refine det_nil ?_
            intro W9 hS
            replace hS : Ext wr W9 := hS
            have X9 := Lib.hid (HX.out.below hS)
            have K9 := Lib.hid (show KB useT w2.heap.size w5 W9 from HK.out.trans (KB.ext HB.out.size hS))
            have f0 := (X9.out.cell 0).trans rfl
            have f1 := (X9.out.cell 1).trans rfl
            have f2 := (X9.out.cell 2).trans rfl
            have f3 := (X9.out.cell 3).trans rfl
            have g0 := X9.out.frozen 0
            have g1 := X9.out.frozen 1
            have g2 := X9.out.frozen 2
            have g3 := X9.out.frozen 3
            clear hS
            go_wp2
            go_roundw
            case rel =>
              have p1 := X9.out.put 0 (.int .i64 (t1 : Int)) rfl
              have p2 := p1.put 1 (.int .i64 (t2 : Int)) rfl
              have p3 := p2.put 2 (.int .i64 (t3 : Int)) rfl
              refine ⟨k + 1, by omega, by go_num, ?_, (((K9.out.trans (KB.set (T := useT) X9.out rfl (Nat.le_refl _) _)).trans (KB.set (T := useT) p1 rfl (Nat.le_refl _) _)).trans (KB.set (T := useT) p2 rfl (Nat.le_refl _) _)).trans (KB.set (T := useT) p3 rfl (Nat.le_refl _) _)⟩
              rw [ST.out]
              exact p3.put 3 _ rfl
            case measure => simp [intOf]; omega
          · obtain rfl : k = L.length := by omega
            rw [List.take_of_length_le (by rw [UL.out]; exact Nat.le_refl _), TU.out] at hx
            have OE8 := Lib.hid (OE5.out.keep (T := useT) (by intro h; cases h) (by intro h; cases h) (by intro h; cases h) hb)
            have B8 := Lib.hid (show Ext w2 wr from Below.trans E5.out hb.below)
            have QR := Lib.hid fun W (e : Ext w2 W) => show Calls Tryz.prog 25 #[.pointer ap, .string (strOf [])] W fun e w' => e = .returned (.agg (useC (Sp.useSum (Sp.inUses m [])))) ∧ Ext W w' from by
              have := OC.out [] W e
              rwa [UB.out] at this
            obtain ⟨A7, c7, e7, hE7⟩ := OE8.out.read
            cases e7
            have EE8 := Lib.hid hE7
            obtain ⟨t, ht⟩ : ∃ t, t = Sp.useSum (Sp.inUses m []) := ⟨_, rfl⟩
            rw [← ht] at QR hx FS
            obtain ⟨t1, t2, t3, t4⟩ := t
            have HX := Lib.hid (show isBlk wr w2.heap.size 41 #[.int .i64 t1, .int .i64 t2, .int .i64 t3, .int .i64 t4] from hx)
            have QR2 := Lib.hid (show ∀ W, Ext w2 W → Calls Tryz.prog 25 #[.pointer ap, .string (strOf [])] W fun e w' => e = .returned (.agg #[.int .i64 t1, .int .i64 t2, .int .i64 t3, .int .i64 t4]) ∧ Ext W w' from QR.out)
            have FS2 := Lib.hid (show t1 = (Sp.shownM m).length from FS.out)
            have dt := DT.out
            obtain ⟨sl, hsl⟩ : ∃ sl, sl = (Sp.shownM m).length := ⟨_, rfl⟩
            rw [← hsl] at FS2 SC
            obtain ⟨dl, hdl⟩ : ∃ dl, dl = (Sp.dirsS m []).length := ⟨_, rfl⟩
            rw [← hdl] at dt DC
            have FS3 := FS2.out
            subst FS3
            have c9 : (dl : Int) ≤ (L.length : Int) := by omega
            clear hx hb hE7 ht hsl hdl DT FS
            go_wp2_with fail
            refine wp_region_planT (fun W => Ext wr W) 19 [(true, 0), (true, 1), (false, 2), (false, 3), (false, 4), (true, 5), (true, 8), (false, 6), (true, 7), (false, 9), (false, 10), (false, 11), (false, 12), (false, 13), (true, 14), (true, 17), (true, 18), (false, 15), (false, 16)] (by kernel_rfl) (by kernel_rfl) (Ext.refl wr).drew ?_
            have B8d := Lib.hid (show Ext wr wr.drew from (Ext.refl wr).drew)
            refine plan_float rfl (fun K hK => ?_)
            apply Exists.intro
            refine ⟨Or.inl ⟨rfl, fun W hS => ?_⟩, ?_⟩
            · have hz : Ext wr W := hS; have z := HX.out.below hz; have f0 := (z.cell 0).trans rfl; have f1 := (z.cell 1).trans rfl; have f2 := (z.cell 2).trans rfl; have f3 := (z.cell 3).trans rfl
              go_simp
              first | done | exact rfl
            go_simp
            refine hK _ ?_
            clear hK K
            refine plan_float rfl (fun K hK => ?_)
            apply Exists.intro
            refine ⟨Or.inl ⟨rfl, fun W hS => ?_⟩, ?_⟩
            · skip
              go_simp
              first | done | exact rfl
            go_simp
            refine hK _ ?_
            clear hK K
            refine plan_only rfl (fun Q' hQ' => ?_)
            go_wp2_with fail
            refine (QR2.out wr.drew (B8.out.trans B8d.out)).mono ?_
            rintro e w9 ⟨rfl, hb9⟩
            have B9 := Lib.hid (B8d.out.trans hb9)
            clear hb9
            go_wp2
            refine hQ' _ _ B9.out ?_
            clear hQ'
            refine plan_only rfl (fun Q' hQ' => ?_)
            go_wp2
            refine hQ' _ _ B9.out ?_
            clear hQ'
            refine plan_only rfl (fun Q' hQ' => ?_)
            go_wp2
            refine hQ' _ _ B9.out ?_
            clear hQ'
            refine plan_float rfl (fun K hK => ?_)
            apply Exists.intro
            refine ⟨Or.inl ⟨rfl, fun W hS => ?_⟩, ?_⟩
            · skip
              go_simp
              first | done | exact rfl
            go_simp
            refine hK _ ?_
            clear hK K
            refine plan_float rfl (fun K hK => ?_)
            apply Exists.intro
            refine ⟨Or.inl ⟨rfl, fun W hS => ?_⟩, ?_⟩
            · skip
              go_simp
              first | done | exact rfl
            go_simp
            refine hK _ ?_
            clear hK K
            refine plan_only rfl (fun Q' hQ' => ?_)
            go_wp2_with fail
            refine (QR2.out w9 (B8.out.trans B9.out)).mono ?_
            rintro e w10 ⟨rfl, hb10⟩
            have B10 := Lib.hid (B9.out.trans hb10)
            clear hb10
            go_wp2
            refine hQ' _ _ B10.out ?_
            clear hQ'
            refine plan_float rfl (fun K hK => ?_)
            apply Exists.intro
            refine ⟨Or.inl ⟨rfl, fun W hS => ?_⟩, ?_⟩
            · have ff := field_use (t1 : Int) (.int .i64 (t2 : Int)) (.int .i64 (t3 : Int)) (.int .i64 (t4 : Int)) W
              go_simp
              first | done | exact rfl
            go_simp
            refine hK _ ?_
            clear hK K
            have EE10 := Lib.hid (EE8.out.ext B10.out)
            refine plan_only rfl (fun Q' hQ' => ?_)
            go_wp2_with fail
            refine (SC.out _ _ w10 EE10.out).mono ?_
            rintro e w11 ⟨A11, c11, rfl, _, hb11⟩
            have B11 := Lib.hid (B10.out.trans hb11)
            clear hb11
            go_wp2
            refine hQ' _ _ B11.out ?_
            clear hQ'
            refine plan_only rfl (fun Q' hQ' => ?_)
            go_wp2
            refine hQ' _ _ B11.out ?_
            clear hQ'
            refine plan_only rfl (fun Q' hQ' => ?_)
            go_wp2
            refine hQ' _ _ B11.out ?_
            clear hQ'
            refine plan_only rfl (fun Q' hQ' => ?_)
            go_wp2
            refine hQ' _ _ B11.out ?_
            clear hQ'
            refine plan_only rfl (fun Q' hQ' => ?_)
            go_wp2
            refine hQ' _ _ B11.out ?_
            clear hQ'
            refine plan_float rfl (fun K hK => ?_)
            apply Exists.intro
            refine ⟨Or.inl ⟨rfl, fun W hS => ?_⟩, ?_⟩
            · skip
              go_simp
              first | done | exact rfl
            go_simp
            refine hK _ ?_
            clear hK K
            refine plan_float rfl (fun K hK => ?_)
            apply Exists.intro
            refine ⟨Or.inl ⟨rfl, fun W hS => ?_⟩, ?_⟩
            · skip
              go_simp
              first | done | exact rfl
            go_simp
            refine hK _ ?_
            clear hK K
            refine plan_float rfl (fun K hK => ?_)
            apply Exists.intro
            refine ⟨Or.inl ⟨rfl, fun W hS => ?_⟩, ?_⟩
            · skip
              go_simp
              first | done | exact rfl
            go_simp
            refine hK _ ?_
            clear hK K
            refine plan_only rfl (fun Q' hQ' => ?_)
            go_wp2_with fail
            refine (DC.out w11 (B8.out.trans B11.out)).mono ?_
            rintro e w12 ⟨A12, c12, rfl, _, hb12⟩
            have B12 := Lib.hid (B11.out.trans hb12)
            clear hb12
            go_wp2
            refine hQ' _ _ B12.out ?_
            clear hQ'
            refine plan_only rfl (fun Q' hQ' => ?_)
            go_wp2
            refine hQ' _ _ B12.out ?_
            clear hQ'
            refine plan_nil ?_
            simp only [List.drop_succ_cons, List.drop_zero]
            have B12' := Lib.hid (B2.out.trans (B8.out.trans B12.out))
            go_wp2_with fail
            refine (AW.out w12 B12'.out).mono ?_
            rintro e w13 ⟨rfl, hb13⟩
            go_wp2
            refine ⟨rfl, ?_⟩
            go_wp2
            go_ret
            exact ⟨rfl, B12'.out.trans hb13⟩
end Go.Proofs.YteiblfcehlibpaaGreatDoor
