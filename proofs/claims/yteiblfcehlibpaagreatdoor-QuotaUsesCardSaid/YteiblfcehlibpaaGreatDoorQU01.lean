/- Walks, plain: Count is the document's; what is listed behind the last path; what is below a directory, in parts. Walks: what is below a directory, in parts (the law's own recursion). Quotas: what a leaf uses. Quotas: uses together. Quotas: what a directory uses. Quotas: the document's use of a directory. Quotas: the example of chapter 45. Quotas, plain: what a directory uses, by the tree and by the document. Quotas: QuotaUses. -/
import Derived.Test.YteiblfcehlibpaaGreatDoorWD49
import Derived.Test.YteiblfcehlibpaaGreatDoorWD39
import Derived.Test.YteiblfcehlibpaaGreatDoorWD11
import Derived.Test.YteiblfcehlibpaaGreatDoorWD36
namespace Go.Proofs.YteiblfcehlibpaaGreatDoor
open Go.RowKit Go.Shelf
namespace Sp
theorem Both.rise {o : Option T} {m : List DE} (h : Both o m) : RiseE (toP m) := by rw [h.eq]; exact riseO h.go.1
/-! Lists behind the last path. -/
/-! What is below a directory, in parts. -/
theorem under_parts {p d : Bs} (h : under p d = true) : parts p ≠ [] ∧ (d = [] ∨ parts d ≠ []) ∧ (parts d).length < (parts p).length ∧ (parts p).take (parts d).length = parts d := by
  unfold under at h
  simpa [and_assoc] using h
theorem under_of {p d : Bs} (h : parts p ≠ [] ∧ (d = [] ∨ parts d ≠ []) ∧ (parts d).length < (parts p).length ∧ (parts p).take (parts d).length = parts d) : under p d = true := by
  unfold under
  simpa [and_assoc] using h
end Sp
end Go.Proofs.YteiblfcehlibpaaGreatDoor
namespace Go.Proofs.YteiblfcehlibpaaGreatDoor
open Go.RowKit Go.Shelf
attribute [local go_sem] yUpon strOf_toList
namespace Sp
theorem sum_take {α : Type} (f : α → Nat) (l : List α) (k : Nat) (h : k < l.length) : ((l.take (k + 1)).map f).sum = ((l.take k).map f).sum + f l[k] := by
  rw [List.take_succ_eq_append_getElem h, List.map_append, List.sum_append]; simp
end Sp
end Go.Proofs.YteiblfcehlibpaaGreatDoor
namespace Go.Proofs.YteiblfcehlibpaaGreatDoor
open Go.RowKit Go.Shelf
attribute [local go_sem] yUpon strOf_toList
namespace Sp
/-- Files, bytes, sides, dead ones. -/
abbrev Use := Nat × Nat × Nat × Nat
def sumB (l : List Ver) : Nat := (l.map fun v => v.data.length).sum
def useL (l : List Ver) : Use := (min (live l).length 1, sumB (live l), (live l).length - 1, l.length - (live l).length)
theorem sumB_take (l : List Ver) (k : Nat) (h : k < l.length) : sumB (l.take (k + 1)) = sumB (l.take k) + l[k].data.length := sum_take _ l k h
theorem sumB_le (n : Nat) : ∀ l : List Ver, (∀ v ∈ l, v.data.length ≤ n) → sumB l ≤ l.length * n
  | [], _ => Nat.zero_le _
  | v :: r, h => by
    have h1 := sumB_le n r fun x hx => h x (List.mem_cons_of_mem _ hx)
    have h2 := h v (List.mem_cons_self ..)
    unfold sumB at *
    rw [List.map_cons, List.sum_cons, List.length_cons, Nat.succ_mul]
    omega
end Sp
def useC (u : Sp.Use) : Array Value := #[.int .i64 u.1, .int .i64 u.2.1, .int .i64 u.2.2.1, .int .i64 u.2.2.2]
set_option maxRecDepth 100000 in
set_option maxHeartbeats 4000000 in
theorem qleaf_calls (l : List Sp.Ver) (A : Option Addr) (cap : Nat) (w : World) (h : Vers w A l) (hl : l.length ≤ 1000) (hd : ∀ v ∈ l, v.data.length ≤ 1000) :
    Calls Tryz.prog 57 #[.slice A l.length cap] w fun e w' => e = .returned (.agg (useC (Sp.useL l))) ∧ Ext w w' := by
  have LC := Lib.hid fun W (e : Ext w W) => live_calls l A cap W (h.ext e) (by omega)
  have QL : (Sp.live l).length ≤ l.length := List.length_filter_le _ _
  have QD := Lib.hid (show ∀ v ∈ Sp.live l, v.data.length ≤ 1000 from fun v hv => hd v (List.mem_filter.1 hv).1)
  have UU := Lib.hid (show Sp.useL l = (min (Sp.live l).length 1, Sp.sumB (Sp.live l), (Sp.live l).length - 1, l.length - (Sp.live l).length) from rfl)
  obtain ⟨q, hq⟩ : ∃ q, q = Sp.live l := ⟨_, rfl⟩
  rw [← hq] at LC QL QD UU
  obtain ⟨n, hn⟩ : ∃ n, n = l.length := ⟨_, rfl⟩
  rw [← hn] at LC QL UU hl ⊢
  obtain ⟨dn, hdn⟩ : ∃ dn, dn = n - q.length := ⟨_, rfl⟩
  rw [← hdn] at UU
  have w1 : IntKind.i64.wrap ((n : Int) - (q.length : Int)) = (dn : Int) := by rw [IntWalk.i64_in _ (by omega)]; omega
  clear hq hd h hdn hn
  go_enter Tryz.func57, Tryz.ntmps57
  go_upto_region 1 with fail
  obtain ⟨w0, hw0⟩ : ∃ w0, w0 = w.alloc (.cells #[.int .i64 0, .int .i64 0, .int .i64 0, .int .i64 0] 41) := ⟨_, rfl⟩
  have X0 := Lib.hid (show isBlk w0 w.heap.size 41 #[.int .i64 0, .int .i64 0, .int .i64 0, .int .i64 0] by rw [hw0]; exact box_at w _ _)
  have E0 := Lib.hid (show Ext w w0 by rw [hw0]; exact Ext.alloc _ _)
  rw [← hw0]
  clear hw0
  go_wp2_with fail
  refine (LC.out w0 E0.out).mono ?_
  rintro e w2 ⟨v2, rfl, hO2, hb2⟩
  obtain ⟨A2, c2, rfl, hV2⟩ := hO2.read
  have V2 := Lib.hid hV2
  have X2 := Lib.hid (X0.out.below hb2)
  have E2 := Lib.hid (E0.out.trans hb2)
  clear hO2 hV2 hb2 X0
  go_upto_if 17 with fail
  obtain ⟨w3, hw3⟩ : ∃ w3, w3 = w2.alloc (.cells #[.int .i64 0, .int .i64 0, .int .i64 0, .int .i64 dn] 41) := ⟨_, rfl⟩
  have X3 := Lib.hid (show isBlk w3 w2.heap.size 41 #[.int .i64 0, .int .i64 0, .int .i64 0, .int .i64 dn] by rw [hw3]; exact box_at w2 _ _)
  have E3 := Lib.hid (show Ext w2 w3 by rw [hw3]; exact Ext.alloc _ _)
  rw [← hw3]
  clear hw3
  obtain ⟨mf, hmf⟩ : ∃ mf, mf = min q.length 1 := ⟨_, rfl⟩
  obtain ⟨ms, hms⟩ : ∃ ms, ms = q.length - 1 := ⟨_, rfl⟩
  rw [← hmf, ← hms] at UU
  have HMF := Lib.hid hmf
  have HMS := Lib.hid hms
  clear hmf hms
  go_cut [] (fun wx => isBlk wx w2.heap.size 41 #[.int .i64 mf, .int .i64 0, .int .i64 ms, .int .i64 dn] ∧ Ext w2 wx)
  case first =>
    by_cases h0 : 0 < q.length
    · have w4 : IntKind.i64.wrap ((q.length : Int) - 1) = (ms : Int) := by rw [IntWalk.i64_in _ (by omega), HMS.out]; omega
      have g0 := X3.out.frozen 0
      have g2 := X3.out.frozen 2
      have e0 := (X3.out.cell 0).trans rfl
      have e2 := (X3.out.cell 2).trans rfl
      have M1 := Lib.hid (show mf = 1 by rw [HMF.out]; omega)
      clear w1
      go_wp2
      go_meet
      case rel =>
        rw [M1.out]
        exact ⟨(X3.out.put 0 (.int .i64 1) rfl).put 2 (.int .i64 (ms : Int)) rfl, (E3.out.setCell (p := ⟨w2.heap.size, 0, none⟩) (by simp) _).setCell (p := ⟨w2.heap.size, 2, none⟩) (by simp) _⟩
    · have M1 := Lib.hid (show mf = 0 by rw [HMF.out]; omega)
      have M2 := Lib.hid (show ms = 0 by rw [HMS.out]; omega)
      clear w1
      go_wp2
      go_meet
      case rel => rw [M1.out, M2.out]; exact ⟨X3.out, E3.out⟩
  case rest =>
    obtain ⟨hx, hbx⟩ := hcut
    obtain ⟨wx, hwx⟩ : ∃ wx, wx = wc := ⟨_, rfl⟩
    rw [← hwx] at hx hbx ⊢
    have XX := Lib.hid hx
    have BX := Lib.hid hbx
    clear hx hbx hwx X3 E3
    have QL2 : q.length ≤ 1000 := by omega
    clear w1
    go_wp2
    go_loopw [25] (fun v25 wr => ∃ k : Nat, k ≤ q.length ∧ v25 = .int .i64 k ∧ isBlk wr w2.heap.size 41 #[.int .i64 mf, .int .i64 (Sp.sumB (q.take k) : Nat), .int .i64 ms, .int .i64 dn] ∧ Ext w2 wr) (fun v25 _ => q.length - (intOf v25).toNat)
    case atStart => exact ⟨0, Nat.zero_le _, rfl, XX.out, BX.out⟩
    case round =>
      obtain ⟨k, hk, rfl, hz, hb⟩ := hrel
      have HB := Lib.hid hb
      have HZ := Lib.hid hz
      by_cases hlt : k < q.length
      · obtain ⟨eb, eo, rfl, hc0⟩ := V2.out.at (by omega)
        obtain ⟨A', c', hvc, hpast⟩ := hc0 k hlt
        obtain ⟨c0, c1, c2, c3, c4⟩ := hvc.ext hb
        have ST := Lib.hid (Sp.sumB_take q k hlt)
        have SL := Sp.sumB_le 1000 (q.take k) fun v hv => QD.out v (List.mem_of_mem_take hv)
        rw [List.length_take] at SL
        have dl := QD.out _ (List.getElem_mem hlt)
        obtain ⟨x, hx⟩ : ∃ x, x = q[k] := ⟨_, rfl⟩
        rw [← hx] at c0 c1 c2 c3 c4 ST dl
        obtain ⟨sm, hsm⟩ : ∃ sm, sm = Sp.sumB (q.take k) := ⟨_, rfl⟩
        rw [← hsm] at HZ ST SL
        have b1 : (k : Int) < (q.length : Int) := by omega
        have SL2 : sm ≤ 1000000 := Nat.le_trans SL (Nat.le_trans (Nat.mul_le_mul_right 1000 (Nat.min_le_left k q.length)) (by omega))
        clear hz hb hvc hpast hc0 hx hsm SL
        go_upto_region 8 with fail
        obtain ⟨w6, hw6⟩ : ∃ w6, w6 = wr.alloc (.cells #[.int .i64 x.dot.1, .int .i64 x.dot.2, .slice A' x.past.length c', .bool x.dead, .string (strOf x.data)] 75) := ⟨_, rfl⟩
        have X6 := Lib.hid (show isBlk w6 wr.heap.size 75 #[.int .i64 x.dot.1, .int .i64 x.dot.2, .slice A' x.past.length c', .bool x.dead, .string (strOf x.data)] by rw [hw6]; exact box_at wr _ _)
        have E6 := Lib.hid (show Ext wr w6 by rw [hw6]; exact Ext.alloc _ _)
        have Z6 := Lib.hid (HZ.out.below E6.out)
        rw [← hw6]
        clear hw6 c0 c1 c2 c3 c4
        have f4 := (X6.out.cell 4).trans rfl
        have z1 := (Z6.out.cell 1).trans rfl
        have g1 := Z6.out.frozen 1
        have sz := strOf_size x.data
        go_wp2
        go_roundw
        case rel =>
          refine ⟨k + 1, by omega, by go_num, ?_, (HB.out.trans E6.out).setCell (p := ⟨w2.heap.size, 1, none⟩) (by simp) _⟩
          have := Z6.out.put 1 (.int .i64 ((sm : Int) + (x.data.length : Int))) rfl
          rw [ST.out, show ((sm + x.data.length : Nat) : Int) = (sm : Int) + (x.data.length : Int) by omega]
          exact this
        case measure => simp [intOf]; omega
      · obtain rfl : k = q.length := by omega
        rw [List.take_length] at HZ
        have Y := Lib.hid (X2.out.below (BX.out.trans (Ext.refl _)))
        clear hz hb
        have z0 := (HZ.out.cell 0).trans rfl
        have z1 := (HZ.out.cell 1).trans rfl
        have z2 := (HZ.out.cell 2).trans rfl
        have z3 := (HZ.out.cell 3).trans rfl
        have RX := Lib.hid (X2.out.below HB.out)
        have r0 := (RX.out.cell 0).trans rfl
        have r1 := (RX.out.cell 1).trans rfl
        have r2 := (RX.out.cell 2).trans rfl
        have r3 := (RX.out.cell 3).trans rfl
        have g0 := RX.out.frozen 0
        have g1 := RX.out.frozen 1
        have g2 := RX.out.frozen 2
        have g3 := RX.out.frozen 3
        obtain ⟨sm, hsm⟩ : ∃ sm, sm = Sp.sumB q := ⟨_, rfl⟩
        rw [← hsm] at HZ z1 UU
        clear hsm Y
        go_wp2
        refine bodyPost_ret (results_cell_row rfl _ _ w.heap.size 41 #[.int .i64 mf, .int .i64 sm, .int .i64 ms, .int .i64 dn] (0, 0) _ rfl ((((RX.out.put 0 _ rfl).put 1 _ rfl).put 2 _ rfl).put 3 _ rfl) Tryz.underlying41 rfl (by kernel_rfl)) rfl ?_
        exact ⟨by rw [UU.out]; rfl, ((((E2.out.trans HB.out).setCell (p := ⟨w.heap.size, 0, none⟩) (by simp) _).setCell (p := ⟨w.heap.size, 1, none⟩) (by simp) _).setCell (p := ⟨w.heap.size, 2, none⟩) (by simp) _).setCell (p := ⟨w.heap.size, 3, none⟩) (by simp) _⟩
namespace Sp
def useZ : Use := (0, 0, 0, 0)
def useA (a b : Use) : Use := (a.1 + b.1, a.2.1 + b.2.1, a.2.2.1 + b.2.2.1, a.2.2.2 + b.2.2.2)
def useSum (l : List Use) : Use := l.foldl useA useZ
/-- No use is so much that a sum of so many would not fit. -/
def Small (n : Nat) (u : Use) : Prop := u.1 ≤ n ∧ u.2.1 ≤ n ∧ u.2.2.1 ≤ n ∧ u.2.2.2 ≤ n
theorem useSum_snoc (l : List Use) (u : Use) : useSum (l ++ [u]) = useA (useSum l) u := by unfold useSum; rw [List.foldl_append]; rfl
theorem useSum_from {n : Nat} : ∀ (l : List Use) (m : Nat) (a : Use), Small m a → (∀ u ∈ l, Small n u) → Small (m + l.length * n) (l.foldl useA a)
  | [], m, a, h, _ => by simpa using h
  | u :: r, m, a, h, hl => by
    obtain ⟨a1, a2, a3, a4⟩ := h
    obtain ⟨b1, b2, b3, b4⟩ := hl u (List.mem_cons_self ..)
    have := useSum_from r (m + n) (useA a u) ⟨Nat.add_le_add a1 b1, Nat.add_le_add a2 b2, Nat.add_le_add a3 b3, Nat.add_le_add a4 b4⟩ fun x hx => hl x (List.mem_cons_of_mem _ hx)
    rw [List.foldl_cons, List.length_cons, Nat.succ_mul, Nat.add_comm (r.length * n) n, ← Nat.add_assoc]
    exact this
theorem useSum_small {n : Nat} (l : List Use) (h : ∀ u ∈ l, Small n u) : Small (l.length * n) (useSum l) := by
  have := useSum_from l 0 useZ ⟨Nat.le_refl _, Nat.le_refl _, Nat.le_refl _, Nat.le_refl _⟩ h
  rwa [Nat.zero_add] at this
theorem useSum_take (l : List Use) (k : Nat) (h : k < l.length) : useSum (l.take (k + 1)) = useA (useSum (l.take k)) l[k] := by
  rw [List.take_succ_eq_append_getElem h, useSum_snoc]
end Sp
def usesC : List Sp.Use → List Value
  | [] => []
  | u :: r => (useC u).toList ++ usesC r
theorem usesC_len : ∀ l, (usesC l).length = l.length * 4
  | [] => rfl
  | u :: r => by rw [usesC, List.length_append, usesC_len r, List.length_cons]; simp [useC]; omega
theorem usesC_snoc (l : List Sp.Use) (u : Sp.Use) : usesC (l ++ [u]) = usesC l ++ (useC u).toList := by
  induction l with
  | nil => simp [usesC]
  | cons x r ih => rw [List.cons_append, usesC, ih, usesC, List.append_assoc]
theorem usesC_get : ∀ (l : List Sp.Use) (k j : Nat) (h : k < l.length), j < 4 → (usesC l)[k * 4 + j]? = (useC l[k])[j]?
  | u :: r, 0, j, h, hj => by
    rw [usesC, Nat.zero_mul, Nat.zero_add, List.getElem?_append_left (by simpa [useC] using hj)]
    simp
  | u :: r, k + 1, j, h, hj => by
    have := usesC_get r k j (by simpa using h) hj
    rw [usesC, List.getElem?_append_right (by simp [useC]; omega)]
    simp only [Array.length_toList, List.getElem_cons_succ]
    rw [← this]
    congr 1
    simp [useC]; omega
def Uses (w : World) (A : Option Addr) (l : List Sp.Use) : Prop := Cells w A (usesC l)
theorem Uses.ext {w w' : World} {A : Option Addr} {l : List Sp.Use} (h : Uses w A l) (e : Ext w w') : Uses w' A l := Cells.ext h e
theorem Uses.at {w : World} {A : Option Addr} {l : List Sp.Use} (h : Uses w A l) (hn : 0 < l.length) : ∃ g o, A = some ⟨g, o, none⟩ ∧ ∀ k (h : k < l.length), w.cell? ⟨g, o + k * 4, none⟩ = some (.int .i64 l[k].1) ∧ w.cell? ⟨g, o + k * 4 + 1, none⟩ = some (.int .i64 l[k].2.1) ∧ w.cell? ⟨g, o + k * 4 + 2, none⟩ = some (.int .i64 l[k].2.2.1) ∧ w.cell? ⟨g, o + k * 4 + 3, none⟩ = some (.int .i64 l[k].2.2.2) := by
  obtain ⟨g, o, hA, hc⟩ := h (by
    intro e
    have := usesC_len l
    rw [e] at this
    simp at this
    omega)
  refine ⟨g, o, hA, fun k hk => ⟨?_, ?_, ?_, ?_⟩⟩
  · exact hc _ _ (usesC_get l k 0 hk (by decide))
  · exact hc _ _ (usesC_get l k 1 hk (by decide))
  · exact hc _ _ (usesC_get l k 2 hk (by decide))
  · exact hc _ _ (usesC_get l k 3 hk (by decide))
end Go.Proofs.YteiblfcehlibpaaGreatDoor
namespace Go.Proofs.YteiblfcehlibpaaGreatDoor
open Go.RowKit Go.Shelf
attribute [local go_sem] yUpon strOf_toList
set_option maxRecDepth 100000 in
set_option maxHeartbeats 4000000 in
theorem qsum_calls (l : List Sp.Use) (A : Option Addr) (cap : Nat) (w : World) (h : Uses w A l) (hl : l.length ≤ 1000) (hs : ∀ u ∈ l, Sp.Small 1000000000 u) :
    Calls Tryz.prog 59 #[.slice A l.length cap] w fun e w' => e = .returned (.agg (useC (Sp.useSum l))) ∧ Ext w w' := by
  have HH := Lib.hid h
  have HS := Lib.hid hs
  clear h hs
  go_enter Tryz.func59, Tryz.ntmps59
  go_upto_region 2 with fail
  obtain ⟨w0, hw0⟩ : ∃ w0, w0 = (w.alloc (.cells #[.int .i64 0, .int .i64 0, .int .i64 0, .int .i64 0] 41)).alloc (.cells #[.int .i64 0, .int .i64 0, .int .i64 0, .int .i64 0] 41) := ⟨_, rfl⟩
  have X0 := Lib.hid (show isBlk w0 w.heap.size 41 #[.int .i64 0, .int .i64 0, .int .i64 0, .int .i64 0] by rw [hw0]; exact (box_at w _ _).alloc _)
  have Y0 := Lib.hid (show isBlk w0 (w.heap.size + 1) 41 #[.int .i64 0, .int .i64 0, .int .i64 0, .int .i64 0] by
    rw [hw0]
    have := box_at (w.alloc (.cells #[.int .i64 0, .int .i64 0, .int .i64 0, .int .i64 0] 41)) #[.int .i64 0, .int .i64 0, .int .i64 0, .int .i64 0] 41
    rwa [World.size_alloc] at this)
  have E0 := Lib.hid (show Ext w w0 by rw [hw0]; exact Below.alloc (Ext.alloc _ _) (by simp) _)
  rw [← hw0]
  clear hw0
  go_wp2
  go_loopw [8] (fun v8 wr => ∃ k : Nat, k ≤ l.length ∧ v8 = .int .i64 k ∧ isBlk wr (w.heap.size + 1) 41 (useC (Sp.useSum (l.take k))) ∧ isBlk wr w.heap.size 41 #[.int .i64 0, .int .i64 0, .int .i64 0, .int .i64 0] ∧ Ext w wr) (fun v8 _ => l.length - (intOf v8).toNat)
  case atStart => exact ⟨0, Nat.zero_le _, rfl, Y0.out, X0.out, E0.out⟩
  case round =>
    obtain ⟨k, hk, rfl, hy, hx, hb⟩ := hrel
    have HB := Lib.hid hb
    have HY := Lib.hid hy
    have HX := Lib.hid hx
    by_cases hlt : k < l.length
    · obtain ⟨eb, eo, rfl, hc⟩ := (HH.out.ext hb).at (by omega)
      obtain ⟨c0, c1, c2, c3⟩ := hc k hlt
      have ST := Lib.hid (Sp.useSum_take l k hlt)
      obtain ⟨s1, s2, s3, s4⟩ := Sp.useSum_small (l.take k) fun u hu => HS.out u (List.mem_of_mem_take hu)
      rw [List.length_take] at s1 s2 s3 s4
      have kk := Nat.mul_le_mul_right 1000000000 (Nat.min_le_left k l.length)
      obtain ⟨t1, t2, t3, t4⟩ := HS.out _ (List.getElem_mem hlt)
      obtain ⟨u, hu⟩ : ∃ u, u = l[k] := ⟨_, rfl⟩
      rw [← hu] at c0 c1 c2 c3 ST t1 t2 t3 t4
      obtain ⟨s, hsm⟩ : ∃ s, s = Sp.useSum (l.take k) := ⟨_, rfl⟩
      rw [← hsm] at HY ST s1 s2 s3 s4
      obtain ⟨a1, a2, a3, a4⟩ := s
      obtain ⟨b1, b2, b3, b4⟩ := u
      simp only at c0 c1 c2 c3 s1 s2 s3 s4 t1 t2 t3 t4
      have kb : (k : Int) < (l.length : Int) := by omega
      have k1 : a1 ≤ 1000000000000 := by omega
      have k2 : a2 ≤ 1000000000000 := by omega
      have k3 : a3 ≤ 1000000000000 := by omega
      have k4 : a4 ≤ 1000000000000 := by omega
      clear hy hx hb hc hu hsm s1 s2 s3 s4 kk
      go_upto_region 5 with fail
      obtain ⟨w6, hw6⟩ : ∃ w6, w6 = wr.alloc (.cells #[.int .i64 b1, .int .i64 b2, .int .i64 b3, .int .i64 b4] 41) := ⟨_, rfl⟩
      have X6 := Lib.hid (show isBlk w6 wr.heap.size 41 #[.int .i64 b1, .int .i64 b2, .int .i64 b3, .int .i64 b4] by rw [hw6]; exact box_at wr _ _)
      have E6 := Lib.hid (show Ext wr w6 by rw [hw6]; exact Ext.alloc _ _)
      have Z6 := Lib.hid (show isBlk w6 (w.heap.size + 1) 41 #[.int .i64 a1, .int .i64 a2, .int .i64 a3, .int .i64 a4] from HY.out.below E6.out)
      have Q6 := Lib.hid (HX.out.below E6.out)
      rw [← hw6]
      have ne : ¬ wr.heap.size = w.heap.size + 1 := by
        have := HY.out.lt
        omega
      clear hw6 c0 c1 c2 c3
      have f0 := (X6.out.cell 0).trans rfl
      have f1 := (X6.out.cell 1).trans rfl
      have f2 := (X6.out.cell 2).trans rfl
      have f3 := (X6.out.cell 3).trans rfl
      have z0 := (Z6.out.cell 0).trans rfl
      have z1 := (Z6.out.cell 1).trans rfl
      have z2 := (Z6.out.cell 2).trans rfl
      have z3 := (Z6.out.cell 3).trans rfl
      have g0 := Z6.out.frozen 0
      have g1 := Z6.out.frozen 1
      have g2 := Z6.out.frozen 2
      have g3 := Z6.out.frozen 3
      go_wp2
      go_roundw
      case rel =>
        refine ⟨k + 1, by omega, by go_num, ?_, ?_, ((((HB.out.trans E6.out).setCell (p := ⟨w.heap.size + 1, 0, none⟩) (by simp) _).setCell (p := ⟨w.heap.size + 1, 1, none⟩) (by simp) _).setCell (p := ⟨w.heap.size + 1, 2, none⟩) (by simp) _).setCell (p := ⟨w.heap.size + 1, 3, none⟩) (by simp) _⟩
        · have := (((Z6.out.put 0 (.int .i64 ((a1 : Int) + b1)) rfl).put 1 (.int .i64 ((a2 : Int) + b2)) rfl).put 2 (.int .i64 ((a3 : Int) + b3)) rfl).put 3 (.int .i64 ((a4 : Int) + b4)) rfl
          rw [ST.out]
          unfold useC Sp.useA
          simp only [Int.natCast_add]
          exact this
        · exact (((Q6.out.far (by simp) _).far (by simp) _).far (by simp) _).far (by simp) _
      case measure => simp [intOf]; omega
    · obtain rfl : k = l.length := by omega
      rw [List.take_length] at HY
      obtain ⟨s, hsm⟩ : ∃ s, s = Sp.useSum l := ⟨_, rfl⟩
      rw [← hsm] at HY
      obtain ⟨a1, a2, a3, a4⟩ := s
      have HSM := Lib.hid hsm
      have Z6 := Lib.hid (show isBlk wr (w.heap.size + 1) 41 #[.int .i64 a1, .int .i64 a2, .int .i64 a3, .int .i64 a4] from HY.out)
      have z0 := (Z6.out.cell 0).trans rfl
      have z1 := (Z6.out.cell 1).trans rfl
      have z2 := (Z6.out.cell 2).trans rfl
      have z3 := (Z6.out.cell 3).trans rfl
      have r0 := (HX.out.cell 0).trans rfl
      have r1 := (HX.out.cell 1).trans rfl
      have r2 := (HX.out.cell 2).trans rfl
      have r3 := (HX.out.cell 3).trans rfl
      have g0 := HX.out.frozen 0
      have g1 := HX.out.frozen 1
      have g2 := HX.out.frozen 2
      have g3 := HX.out.frozen 3
      clear hy hx hb hsm
      go_wp2
      refine bodyPost_ret (results_cell_row rfl _ _ w.heap.size 41 #[.int .i64 a1, .int .i64 a2, .int .i64 a3, .int .i64 a4] (0, 0) _ rfl ((((HX.out.put 0 _ rfl).put 1 _ rfl).put 2 _ rfl).put 3 _ rfl) Tryz.underlying41 rfl (by kernel_rfl)) rfl ?_
      exact ⟨by rw [← HSM.out]; rfl, (((HB.out.setCell (p := ⟨w.heap.size, 0, none⟩) (by simp) _).setCell (p := ⟨w.heap.size, 1, none⟩) (by simp) _).setCell (p := ⟨w.heap.size, 2, none⟩) (by simp) _).setCell (p := ⟨w.heap.size, 3, none⟩) (by simp) _⟩
end Go.Proofs.YteiblfcehlibpaaGreatDoor
namespace Go.Proofs.YteiblfcehlibpaaGreatDoor
open Go.RowKit Go.Shelf
attribute [local go_sem] yUpon strOf_toList
namespace Sp
def Fits (l : List Ver) : Prop := l.length ≤ 64 ∧ ∀ v ∈ l, v.data.length ≤ 48
theorem leaf_fits {l : List Ver} (h : leaf l = 0) : Fits l := ⟨(leaf_ok h).1, fun v hv => (vercheck_ok (lgo_vers l none (leaf_ok h).2.1 v hv)).2.2.2.1⟩
theorem fits_nil : Fits [] := ⟨Nat.zero_le _, fun v h => by cases h⟩
mutual
theorem entries_fit : ∀ t : T, Ok t → ∀ e ∈ entries t, Fits e.2
  | .mk leaf k, hk, e, h => by
    rw [entries] at h
    rcases List.mem_append.1 h with h | h
    · by_cases hl : leaf = []
      · rw [if_pos hl] at h; cases h
      · rw [if_neg hl] at h
        obtain rfl := List.mem_singleton.1 h
        exact leaf_fits (hk.1 hl)
    · exact entriesL_fit k hk.2.2 e h
theorem entriesL_fit : ∀ k : List (Bs × T), OkL k → ∀ e ∈ entriesL k, Fits e.2
  | [], _, e, h => by rw [entriesL] at h; cases h
  | (n, t) :: r, hk, e, h => by
    rw [entriesL] at h
    rcases List.mem_append.1 h with h | h
    · obtain ⟨x, hx, rfl⟩ := List.mem_map.1 h
      exact entries_fit t hk.2.2.1 x hx
    · exact entriesL_fit r hk.2.2.2 e h
end
theorem Both.fits {o : Option T} {m : List DE} (h : Both o m) : ∀ e ∈ m, Fits e.2 := fun e he => by
  have h1 : (split e.1, e.2) ∈ entriesO o := by rw [← h.eq]; exact List.mem_map.2 ⟨e, he, rfl⟩
  cases o with
  | none => cases h1
  | some t => exact entries_fit t (h.go.1 t rfl) _ h1
theorem Both.nodeFits {o : Option T} {m : List DE} (h : Both o m) (d : Bs) : Fits (nodeS (o.getD .nil) d).1 := by
  unfold nodeS
  cases hf : findS (o.getD .nil) d with
  | none => exact fits_nil
  | some s =>
    obtain ⟨_, h2, _⟩ := find_both h.eq h.go h.gm hf
    cases s with
    | mk leaf k =>
      show Fits (nodeT (.mk leaf k)).1
      rw [nodeT_leaf]
      show Fits leaf
      by_cases hl : leaf = []
      · rw [hl]; exact fits_nil
      · exact leaf_fits (h2.1 hl)
theorem useL_small {l : List Ver} (h : Fits l) : Small 100000 (useL l) := by
  obtain ⟨h1, h2⟩ := h
  have h3 : (live l).length ≤ l.length := List.length_filter_le _ _
  have h4 := sumB_le 48 (live l) fun v hv => h2 v (List.mem_filter.1 hv).1
  unfold useL
  refine ⟨?_, ?_, ?_, ?_⟩
  · show min (live l).length 1 ≤ 100000; omega
  · show sumB (live l) ≤ 100000; omega
  · show (live l).length - 1 ≤ 100000; omega
  · show l.length - (live l).length ≤ 100000; omega
theorem Small.mono {n m : Nat} {u : Use} (h : Small n u) (hn : n ≤ m) : Small m u := ⟨Nat.le_trans h.1 hn, Nat.le_trans h.2.1 hn, Nat.le_trans h.2.2.1 hn, Nat.le_trans h.2.2.2 hn⟩
def ofPre (o : Option T) (d : Bs) : List Use := if d ≠ [] then [useL (nodeS (o.getD .nil) d).1] else []
def ofU (o : Option T) (m : List DE) (d : Bs) : List Use := ofPre o d ++ (wunder m d).map fun e => useL e.2
end Sp
theorem appUse : AppStat Tryz.prog 91 41 4 32 := by
  refine ⟨Tryz.underlying91, by decide, by decide, ?_⟩
  obtain ⟨i0, hi, hz0, hz1, hz2⟩ := info_parts (show (Tryz.prog.info? 41).map (fun i => (i.zero, i.size, i.bytes)) = some (some (.agg #[.int .i64 0, .int .i64 0, .int .i64 0, .int .i64 0]), 4, 32) by kernel_rfl)
  exact ⟨i0, _, hi, hz0, hz1, hz2, rfl⟩
abbrev useT : TypeId → Prop := fun t => t = 41
set_option maxRecDepth 100000 in
set_option maxHeartbeats 4000000 in
theorem qof_calls (o : Option Sp.T) (v : Value) (m : List Sp.DE) (BO : Sp.Both o m) (d : Sp.Bs) (w : World) (hT : TreeAt w v o) (K : KeysAt w 4) (M : MaxAt w) :
    Calls Tryz.prog 25 #[v, .string (strOf d)] w fun e w' => e = .returned (.agg (useC (Sp.useSum (Sp.ofU o m d)))) ∧ Ext w w' := by
  have UC := Lib.hid fun W (e : Ext w W) => wunder_calls o v d W (hT.ext e) BO.go BO.short BO.len BO.many (K.ext e) (max_kept M e)
  rw [BO.told] at UC
  have GC := Lib.hid fun W (e : Ext w W) => tget_calls o v d W (hT.ext e) BO.go (K.ext e) (max_kept M e)
  have NF := Lib.hid (BO.nodeFits d)
  have UF := Lib.hid (show ∀ e ∈ Sp.wunder m d, Sp.Fits e.2 from fun e he => BO.fits e (List.mem_filter.1 he).1)
  have hul : (Sp.wunder m d).length ≤ 128 := Nat.le_trans (Sp.wunder_len m d) BO.gm.2
  have OU := Lib.hid (show Sp.ofU o m d = Sp.ofPre o d ++ (Sp.wunder m d).map (fun e => Sp.useL e.2) from rfl)
  have PU := Lib.hid (show Sp.ofPre o d = if d ≠ [] then [Sp.useL (Sp.nodeS (o.getD .nil) d).1] else [] from rfl)
  obtain ⟨U, hU⟩ : ∃ U, U = Sp.wunder m d := ⟨_, rfl⟩
  rw [← hU] at UC UF OU hul
  obtain ⟨lf, hlf⟩ : ∃ lf, lf = (Sp.nodeS (o.getD .nil) d).1 := ⟨_, rfl⟩
  rw [← hlf] at GC NF PU
  obtain ⟨pre, hpre⟩ : ∃ pre, pre = Sp.ofPre o d := ⟨_, rfl⟩
  rw [← hpre] at OU PU
  have P1 : pre.length ≤ 1 := by rw [PU.out]; split <;> simp
  have PS := Lib.hid (show ∀ u ∈ pre, Sp.Small 100000 u by
    rw [PU.out]
    split
    · intro u hu; rw [List.mem_singleton.1 hu]; exact Sp.useL_small NF.out
    · intro u hu; cases hu)
  obtain ⟨ap, rfl⟩ := tree_ptr hT
  clear hU hlf hpre hT K M BO
  go_enter Tryz.func25, Tryz.ntmps25
  go_upto_if 9 with fail
  obtain ⟨w1, hw1⟩ : ∃ w1, w1 = w.alloc (.cells #[.int .i64 0, .int .i64 0, .int .i64 0, .int .i64 0] 41) := ⟨_, rfl⟩
  have X1 := Lib.hid (show isBlk w1 w.heap.size 41 #[.int .i64 0, .int .i64 0, .int .i64 0, .int .i64 0] by rw [hw1]; exact box_at w _ _)
  have E1 := Lib.hid (show Ext w w1 by rw [hw1]; exact Ext.alloc _ _)
  rw [← hw1]
  clear hw1
  go_cut [5, 9] (fun v5 _ wx => wx.ownsRow w1.heap.size 41 4 v5 pre.length (usesC pre) ∧ Ext w1 wx)
  case first =>
    go_wp2_with fail
    · have hd : d ≠ [] := by
        have h : (!List.isEmpty d) = true := by assumption
        rintro rfl
        cases h
      rw [if_pos hd] at PU
      refine (GC.out w1 E1.out).mono ?_
      rintro e w2 ⟨A2, c2, rfl, hV2, hb2⟩
      have B2 := Lib.hid (show Ext w1 w2 from hb2)
      have QC := Lib.hid (qleaf_calls lf A2 c2 w2 hV2 (by have := NF.out.1; omega) (fun v hv => by have := NF.out.2 v hv; omega))
      obtain ⟨u, hu⟩ : ∃ u, u = Sp.useL lf := ⟨_, rfl⟩
      rw [← hu] at QC PU
      obtain ⟨a1, a2, a3, a4⟩ := u
      clear hV2 hb2 hu hd
      go_wp2_with fail
      refine (show Calls Tryz.prog 57 #[.slice A2 lf.length c2] w2 fun e w' => e = .returned (.agg #[.int .i64 a1, .int .i64 a2, .int .i64 a3, .int .i64 a4]) ∧ Ext w2 w' from QC.out).mono ?_
      rintro e w3 ⟨rfl, hb3⟩
      have B3 := Lib.hid (B2.out.trans hb3)
      clear hb3
      go_wp2_with (at_builtin; refine app_new appUse rfl _ _ rfl w1.heap.size _ 0 [] rfl (World.ownsRow_nil _ _ _ _) #[.int .i64 a1, .int .i64 a2, .int .i64 a3, .int .i64 a4] 41 1 rfl rfl (by intro u hu; simp at hu; rcases hu with rfl | rfl | rfl | rfl <;> rfl) (by decide) (by decide) B3.out.size ?_; intro g4 cap4 w4 hown4 hgr4 hb4 hbg4; have O4 := Lib.hid hown4; have B4 := Lib.hid (Below.trans B3.out hb4); clear hown4 hgr4 hb4 hbg4)
      go_meet
      case rel =>
        rw [PU.out]
        exact ⟨by have := O4.out; simpa [usesC, useC] using this, B4.out⟩
    · have hd : ¬ d ≠ [] := by
        have h : (!List.isEmpty d) = false := by assumption
        intro hd
        cases d with
        | nil => exact hd rfl
        | cons _ _ => cases h
      rw [if_neg hd] at PU
      have PU2 := Lib.hid PU.out
      clear hd PU
      go_meet
      case rel =>
        rw [PU2.out]
        exact ⟨World.ownsRow_nil _ _ _ _, Ext.refl _⟩
  case rest =>
    obtain ⟨ho, hbx⟩ := hcut
    obtain ⟨wx, hwx⟩ : ∃ wx, wx = wc := ⟨_, rfl⟩
    rw [← hwx] at ho hbx ⊢
    have OX := Lib.hid ho
    have BX := Lib.hid hbx
    clear ho hbx hwx PU GC
    go_wp2_with fail
    refine (UC.out wx (E1.out.trans BX.out)).mono ?_
    rintro e w2 ⟨v2, rfl, hO2, hb2⟩
    have OE := Lib.hid hO2
    obtain ⟨A2, c2, rfl, _⟩ := hO2.read
    have OO := Lib.hid (own_ext OX.out hb2)
    have B2 := Lib.hid (BX.out.trans hb2)
    have X2 := Lib.hid (X1.out.below B2.out)
    obtain ⟨us, hus⟩ : ∃ us, us = U.map fun e => Sp.useL e.2 := ⟨_, rfl⟩
    rw [← hus] at OU
    have ul : us.length = U.length := by rw [hus, List.length_map]
    have UK := Lib.hid (show ∀ k (h : k < U.length), us.take (k + 1) = us.take k ++ [Sp.useL U[k].2] from fun k h => by rw [hus, List.take_succ_eq_append_getElem (by rw [List.length_map]; exact h), List.getElem_map])
    have US := Lib.hid (show ∀ u ∈ us, Sp.Small 100000 u from fun u hu => by
      rw [hus] at hu
      obtain ⟨e, he, rfl⟩ := List.mem_map.1 hu
      exact Sp.useL_small (UF.out e he))
    have UL := Lib.hid ul
    clear hO2 hb2 OX BX UC hus ul
    go_wp2
    go_loopw [5, 21] (fun v5 v21 wr => ∃ k : Nat, k ≤ U.length ∧ v21 = .int .i64 k ∧ wr.ownsRow w1.heap.size 41 4 v5 (pre.length + k) (usesC (pre ++ us.take k)) ∧ EntsOwn wr wx.heap.size (.slice A2 U.length c2) U ∧ Ext w1 wr) (fun _ v21 _ => U.length - (intOf v21).toNat)
    case atStart => exact ⟨0, Nat.zero_le _, rfl, by rw [List.take_zero, List.append_nil]; exact OO.out, OE.out, B2.out⟩
    case round =>
      obtain ⟨k, hk, rfl, ho, he, hb⟩ := hrel
      have HO := Lib.hid ho
      have HE := Lib.hid he
      have HB := Lib.hid hb
      clear OO OE
      by_cases hlt : k < U.length
      · obtain ⟨A', c', ee, hE⟩ := HE.out.read
        cases ee
        obtain ⟨eb, eo, rfl, hc⟩ := hE.at (by omega)
        obtain ⟨Av, cv, c0, c1, hv⟩ := hc k hlt
        have HV := Lib.hid hv
        have UF2 := Lib.hid (UF.out _ (List.getElem_mem hlt))
        have UT := Lib.hid (show us.take (k + 1) = us.take k ++ [Sp.useL U[k].2] from UK.out k hlt)
        obtain ⟨x, hx⟩ : ∃ x, x = U[k] := ⟨_, rfl⟩
        rw [← hx] at c0 c1 HV UF2 UT
        have kb : (k : Int) < (U.length : Int) := by omega
        clear ho he hb hE hc hv hx
        go_upto_region 7 with fail
        obtain ⟨w6, hw6⟩ : ∃ w6, w6 = wr.alloc (.cells #[.string (strOf x.1), .slice Av x.2.length cv] 51) := ⟨_, rfl⟩
        have X6 := Lib.hid (show isBlk w6 wr.heap.size 51 #[.string (strOf x.1), .slice Av x.2.length cv] by rw [hw6]; exact box_at wr _ _)
        have E6 := Lib.hid (show Ext wr w6 by rw [hw6]; exact Ext.alloc _ _)
        rw [← hw6]
        clear hw6 c0 c1
        have f1 := (X6.out.cell 1).trans rfl
        have QC := Lib.hid (qleaf_calls x.2 Av cv w6 (HV.out.ext E6.out) (by have := UF2.out.1; omega) (fun v hv => by have := UF2.out.2 v hv; omega))
        obtain ⟨u, hu⟩ : ∃ u, u = Sp.useL x.2 := ⟨_, rfl⟩
        rw [← hu] at QC UT
        obtain ⟨a1, a2, a3, a4⟩ := u
        clear hu
        go_wp2_with fail
        refine (show Calls Tryz.prog 57 #[.slice Av x.2.length cv] w6 fun e w' => e = .returned (.agg #[.int .i64 a1, .int .i64 a2, .int .i64 a3, .int .i64 a4]) ∧ Ext w6 w' from QC.out).mono ?_
        rintro e w7 ⟨rfl, hb7⟩
        have E7 := Lib.hid (E6.out.trans hb7)
        have B7 := Lib.hid (HB.out.trans E7.out)
        clear hb7 f1
        have tokA : True := trivial
        go_wp2_with (have _t := tokA; at_builtin; refine app_new appUse rfl _ _ rfl w1.heap.size _ (pre.length + k) _ rfl (own_ext HO.out E7.out) #[.int .i64 a1, .int .i64 a2, .int .i64 a3, .int .i64 a4] 41 1 rfl rfl (by intro u hu; simp at hu; rcases hu with rfl | rfl | rfl | rfl <;> rfl) (by decide) (by omega) B7.out.size ?_; intro g4 cap4 w8 hown4 hgr4 hb4 hbg4; have O8 := Lib.hid hown4; have G8 := Lib.hid hgr4; have H8 := Lib.hid hb4; clear tokA _t hown4 hgr4 hb4 hbg4)
        have KA := Lib.hid (show KB useT w1.heap.size wr w8 from (KB.ext HB.out.size E7.out).trans (KB.grown (own_ext HO.out E7.out) rfl G8.out H8.out))
        go_roundw
        case rel =>
          refine ⟨k + 1, by omega, by go_num, ?_, HE.out.keep (by intro h; cases h) (by intro h; cases h) (by intro h; cases h) KA.out, Below.trans B7.out H8.out⟩
          rw [UT.out, ← List.append_assoc, usesC_snoc]
          exact O8.out
        case measure => simp [intOf]; omega
      · obtain rfl : k = U.length := by omega
        rw [List.take_of_length_le (by rw [UL.out]; exact Nat.le_refl _), ← OU.out] at HO
        have QL : (Sp.ofU o m d).length = pre.length + U.length := by rw [OU.out, List.length_append, UL.out]
        have QS := Lib.hid (show ∀ u ∈ Sp.ofU o m d, Sp.Small 100000 u from fun u hu => by
          rw [OU.out] at hu
          rcases List.mem_append.1 hu with h | h
          · exact PS.out u h
          · exact US.out u h)
        obtain ⟨q, hq⟩ : ∃ q, q = Sp.ofU o m d := ⟨_, rfl⟩
        rw [← hq] at HO QL QS
        have HQ := Lib.hid hq
        obtain ⟨A9, c9, e9, h9⟩ := own_read HO.out
        subst e9
        have C9 := Lib.hid (show Uses wr A9 q from h9)
        have QL2 : q.length ≤ 1000 := by omega
        have SC := Lib.hid fun W (e : Ext wr W) => qsum_calls q A9 c9 W (C9.out.ext e) (by omega) (fun u hu => (QS.out u hu).mono (by decide))
        have X9 := Lib.hid (X1.out.below HB.out)
        have qe := Lib.hid QL
        rw [← QL]
        have HQL : (q.length : Int) ≤ 1000 := by omega
        obtain ⟨sm, hsm⟩ : ∃ sm, sm = Sp.useSum q := ⟨_, rfl⟩
        rw [← hsm] at SC
        have HSM := Lib.hid hsm
        obtain ⟨a1, a2, a3, a4⟩ := sm
        clear ho he hb hq hsm h9 QL
        go_wp2_with fail
        refine (show Calls Tryz.prog 59 #[.slice A9 q.length c9] wr fun e w' => e = .returned (.agg #[.int .i64 a1, .int .i64 a2, .int .i64 a3, .int .i64 a4]) ∧ Ext wr w' from SC.out wr (Ext.refl _)).mono ?_
        rintro e wz ⟨rfl, hbz⟩
        have Z2 := Lib.hid (X9.out.below hbz)
        have E2 := Lib.hid (E1.out.trans (HB.out.trans hbz))
        have r0 := (Z2.out.cell 0).trans rfl
        have r1 := (Z2.out.cell 1).trans rfl
        have r2 := (Z2.out.cell 2).trans rfl
        have r3 := (Z2.out.cell 3).trans rfl
        have g0 := Z2.out.frozen 0
        have g1 := Z2.out.frozen 1
        have g2 := Z2.out.frozen 2
        have g3 := Z2.out.frozen 3
        clear hbz
        go_wp2
        refine bodyPost_ret (results_cell_row rfl _ _ w.heap.size 41 #[.int .i64 a1, .int .i64 a2, .int .i64 a3, .int .i64 a4] (0, 0) _ rfl ((((Z2.out.put 0 _ rfl).put 1 _ rfl).put 2 _ rfl).put 3 _ rfl) Tryz.underlying41 rfl (by kernel_rfl)) rfl ?_
        exact ⟨by rw [← HQ.out, ← HSM.out]; rfl, (((E2.out.setCell (p := ⟨w.heap.size, 0, none⟩) (by simp) _).setCell (p := ⟨w.heap.size, 1, none⟩) (by simp) _).setCell (p := ⟨w.heap.size, 2, none⟩) (by simp) _).setCell (p := ⟨w.heap.size, 3, none⟩) (by simp) _⟩
end Go.Proofs.YteiblfcehlibpaaGreatDoor
namespace Go.Proofs.YteiblfcehlibpaaGreatDoor
open Go.RowKit Go.Shelf
attribute [local go_sem] yUpon strOf_toList
namespace Sp
def inS (p d : Bs) : Bool := decide (d = []) || decide (p = d) || under p d
end Sp
set_option maxRecDepth 100000 in
set_option maxHeartbeats 4000000 in
theorem qin_calls (p d : Sp.Bs) (w : World) (hp : p.length ≤ 1000000) (hd : d.length ≤ 1000000) :
    Calls Tryz.prog 60 #[.string (strOf p), .string (strOf d)] w fun e w' => e = .returned (.bool (Sp.inS p d)) ∧ Ext w w' := by
  have UC := Lib.hid (under_calls p d w hp hd)
  have II := Lib.hid (show Sp.inS p d = (decide (d = []) || decide (p = d) || Sp.under p d) from rfl)
  clear hp hd
  go_enter Tryz.func60, Tryz.ntmps60
  by_cases h0 : d = []
  · subst h0
    have c1 : (([] : List UInt8).isEmpty) = true := rfl
    go_wp2
    go_ret
    exact ⟨by rw [II.out]; rfl, Ext.refl _⟩
  · have c5 : d.isEmpty = false := by cases d with | nil => exact absurd rfl h0 | cons _ _ => rfl
    have c6 : (d == []) = false := by rw [beq_eq_false_iff_ne]; exact h0
    by_cases h1 : p = d
    · subst h1
      have c7 : (p == p) = true := by simp
      have I2 := Lib.hid (show Sp.inS p p = true by rw [II.out]; simp)
      clear h0
      go_wp2
      go_ret
      exact ⟨by rw [I2.out]; rfl, Ext.refl _⟩
    · have c7 : (p == d) = false := by rw [beq_eq_false_iff_ne]; exact h1
      have I2 := Lib.hid (show Sp.inS p d = Sp.under p d by rw [II.out]; simp [h0, h1])
      clear h0 h1
      go_wp2_with fail
      refine UC.out.mono ?_
      rintro e w2 ⟨rfl, hb2⟩
      go_wp2
      go_ret
      exact ⟨by rw [I2.out]; rfl, hb2⟩
theorem Only.cell {g k i : Nat} {u : Value} {w w' : World} (h : Only g w w') (hn : k ≠ g) (c : w.cell? ⟨k, i, none⟩ = some u) : w'.cell? ⟨k, i, none⟩ = some u :=
  (World.cell?_of_block (h.block k (World.block_lt_of_cell? w _ c) hn)).trans c
theorem live_data {w : World} {B : Nat} {v : Value} {q : List Sp.Ver} (h : OwnVers w B v q) : ∃ A c, v = .slice A q.length c ∧ ∀ j (h : j < q.length), ∃ g o, A = some ⟨g, o, none⟩ ∧ B ≤ g ∧ w.cell? ⟨g, o + j * 5 + 4, none⟩ = some (.string (strOf q[j].data)) := by
  obtain ⟨A, c, rfl, hv⟩ := h.read
  refine ⟨A, c, rfl, fun j hj => ?_⟩
  obtain ⟨g, o, rfl, hc⟩ := hv.at (by omega)
  obtain ⟨A', c', hva, _⟩ := hc j hj
  obtain ⟨_, _, _, _, c4⟩ := hva
  obtain ⟨m, _, h2, _⟩ := h
  exact ⟨g, o, rfl, own_off h2 _ rfl, c4⟩
namespace Sp
def inUses (m : List DE) (d : Bs) : List Use := (m.filter fun e => inS e.1 d).map fun e => useL e.2
theorem inUses_take (m : List DE) (d : Bs) (k : Nat) (h : k < m.length) : inUses (m.take (k + 1)) d = inUses (m.take k) d ++ if inS m[k].1 d = true then [useL m[k].2] else [] := by
  unfold inUses
  rw [List.take_succ_eq_append_getElem h, List.filter_append, List.map_append]
  congr 1
  by_cases hp : inS m[k].1 d = true
  · rw [if_pos hp]; simp [hp]
  · rw [if_neg hp]; simp [hp]
theorem inUses_len (m : List DE) (d : Bs) : (inUses m d).length ≤ m.length := by
  unfold inUses
  rw [List.length_map]
  exact List.length_filter_le _ _
theorem inUses_small {m : List DE} (hf : ∀ e ∈ m, Fits e.2) (d : Bs) : Small (m.length * 100000) (useSum (inUses m d)) := by
  refine (useSum_small (inUses m d) (n := 100000) fun u hu => ?_).mono (Nat.mul_le_mul_right _ (inUses_len m d))
  unfold inUses at hu
  obtain ⟨e, he, rfl⟩ := List.mem_map.1 hu
  exact useL_small (hf e (List.mem_filter.1 he).1)
end Sp
set_option maxRecDepth 100000 in
set_option maxHeartbeats 4000000 in
theorem rqof_calls (l : List Sp.DE) (A : Option Addr) (cap : Nat) (d : Sp.Bs) (w : World) (h : EntsAt w A l) (hl : l.length ≤ 128) (hpl : ∀ e ∈ l, e.1.length ≤ 1000000) (hdl : d.length ≤ 1000000) (hf : ∀ e ∈ l, Sp.Fits e.2) :
    Calls Tryz.prog 26 #[.slice A l.length cap, .string (strOf d)] w fun e w' => e = .returned (.agg (useC (Sp.useSum (Sp.inUses l d)))) ∧ Ext w w' := by
  have HH := Lib.hid h
  have HP := Lib.hid hpl
  have HF := Lib.hid hf
  clear h hpl hf
  go_enter Tryz.func26, Tryz.ntmps26
  go_upto_region 2 with fail
  obtain ⟨w0, hw0⟩ : ∃ w0, w0 = (w.alloc (.cells #[.int .i64 0, .int .i64 0, .int .i64 0, .int .i64 0] 43)).alloc (.cells #[.int .i64 0, .int .i64 0, .int .i64 0, .int .i64 0] 43) := ⟨_, rfl⟩
  have X0 := Lib.hid (show isBlk w0 w.heap.size 43 #[.int .i64 0, .int .i64 0, .int .i64 0, .int .i64 0] by rw [hw0]; exact (box_at w _ _).alloc _)
  have Y0 := Lib.hid (show isBlk w0 (w.heap.size + 1) 43 #[.int .i64 0, .int .i64 0, .int .i64 0, .int .i64 0] by
    rw [hw0]
    have := box_at (w.alloc (.cells #[.int .i64 0, .int .i64 0, .int .i64 0, .int .i64 0] 43)) #[.int .i64 0, .int .i64 0, .int .i64 0, .int .i64 0] 43
    rwa [World.size_alloc] at this)
  have E0 := Lib.hid (show Ext w w0 by rw [hw0]; exact Below.alloc (Ext.alloc _ _) (by simp) _)
  rw [← hw0]
  clear hw0
  go_wp2
  go_loopw [6] (fun v6 wr => ∃ k : Nat, k ≤ l.length ∧ v6 = .int .i64 k ∧ isBlk wr (w.heap.size + 1) 43 (useC (Sp.useSum (Sp.inUses (l.take k) d))) ∧ isBlk wr w.heap.size 43 #[.int .i64 0, .int .i64 0, .int .i64 0, .int .i64 0] ∧ Ext w wr) (fun v6 _ => l.length - (intOf v6).toNat)
  case atStart => exact ⟨0, Nat.zero_le _, rfl, Y0.out, X0.out, E0.out⟩
  case round =>
    obtain ⟨k, hk, rfl, hy, hx, hb⟩ := hrel
    have HB := Lib.hid hb
    have HX := Lib.hid hx
    by_cases hlt : k < l.length
    · obtain ⟨eb, eo, rfl, hc⟩ := HH.out.at (by omega)
      obtain ⟨Av, cv, c0, c1, hv⟩ := hc k hlt
      have C0 := Lib.hid c0
      have C1 := Lib.hid c1
      have HV := Lib.hid hv
      have ST := Lib.hid (Sp.inUses_take l d k hlt)
      obtain ⟨s1, s2, s3, s4⟩ := Sp.inUses_small (m := l.take k) (fun e he => HF.out e (List.mem_of_mem_take he)) d
      rw [List.length_take] at s1 s2 s3 s4
      have kk := Nat.mul_le_mul_right 100000 (Nat.min_le_left k l.length)
      obtain ⟨t1, t2⟩ := HF.out _ (List.getElem_mem hlt)
      have XL := HP.out _ (List.getElem_mem hlt)
      obtain ⟨x, hx⟩ : ∃ x, x = l[k] := ⟨_, rfl⟩
      rw [← hx] at C0 C1 HV ST t1 t2 XL
      obtain ⟨s, hsm⟩ : ∃ s, s = Sp.inUses (l.take k) d := ⟨_, rfl⟩
      rw [← hsm] at ST hy s1 s2 s3 s4
      obtain ⟨q, hq⟩ : ∃ q, q = Sp.useSum s := ⟨_, rfl⟩
      rw [← hq] at hy s1 s2 s3 s4
      have HQ := Lib.hid hq
      obtain ⟨a1, a2, a3, a4⟩ := q
      have HY := Lib.hid (show isBlk wr (w.heap.size + 1) 43 #[.int .i64 a1, .int .i64 a2, .int .i64 a3, .int .i64 a4] from hy)
      simp only at s1 s2 s3 s4
      have kb : (k : Int) < (l.length : Int) := by omega
      have k1 : a1 ≤ 100000000 := by omega
      have k2 : a2 ≤ 100000000 := by omega
      have k3 : a3 ≤ 100000000 := by omega
      have k4 : a4 ≤ 100000000 := by omega
      have x0 := HB.out.cell C0.out
      have IC := Lib.hid (qin_calls x.1 d wr XL hdl)
      obtain ⟨b, hbb⟩ : ∃ b, b = Sp.inS x.1 d := ⟨_, rfl⟩
      rw [← hbb] at IC ST
      clear hy hx hb hc hsm hq hbb s1 s2 s3 s4 kk c0 c1 hv
      go_wp2_with fail
      refine IC.out.mono ?_
      rintro e w4 ⟨rfl, hb4⟩
      have B4 := Lib.hid (HB.out.trans hb4)
      have Y4 := Lib.hid (HY.out.below hb4)
      have X4 := Lib.hid (HX.out.below hb4)
      clear hb4 x0 IC
      cases b with
      | false =>
        have ST2 := Lib.hid (show Sp.inUses (l.take (k + 1)) d = s by rw [ST.out]; simp)
        go_wp2
        go_roundw
        case rel => exact ⟨k + 1, by omega, by go_num, by rw [ST2.out, ← HQ.out]; exact Y4.out, X4.out, B4.out⟩
        case measure => simp [intOf]; omega
      | true =>
        have ST2 := Lib.hid (show Sp.inUses (l.take (k + 1)) d = s ++ [Sp.useL x.2] by rw [ST.out]; simp)
        have x1 := B4.out.cell C1.out
        go_wp2_with fail
        refine (rlive_calls x.2 Av cv w4 (HV.out.ext B4.out) (by omega)).mono ?_
        rintro e w5 ⟨v5, rfl, hO5, hb5⟩
        obtain ⟨A5, c5, rfl, hq5⟩ := live_data hO5
        have D5 := Lib.hid hq5
        have Y5 := Lib.hid (Y4.out.below hb5)
        have X5 := Lib.hid (X4.out.below hb5)
        have B5 := Lib.hid (B4.out.trans hb5)
        have GE := Lib.hid (show w.heap.size + 1 < w4.heap.size from Y4.out.lt)
        have QL : (Sp.live x.2).length ≤ x.2.length := List.length_filter_le _ _
        have QD := Lib.hid (show ∀ v ∈ Sp.live x.2, v.data.length ≤ 48 from fun v hv => t2 v (List.mem_filter.1 hv).1)
        have UU := Lib.hid (show Sp.useL x.2 = (min (Sp.live x.2).length 1, Sp.sumB (Sp.live x.2), (Sp.live x.2).length - 1, x.2.length - (Sp.live x.2).length) from rfl)
        obtain ⟨q, hq⟩ : ∃ q, q = Sp.live x.2 := ⟨_, rfl⟩
        rw [← hq] at D5 QL QD UU ⊢
        have TL := Lib.hid t2
        clear hO5 hq5 hb5 x1 hq t2
        go_wp2
        go_loopw [8] (fun v8 wi => ∃ j : Nat, j ≤ q.length ∧ v8 = .int .i64 j ∧ isBlk wi (w.heap.size + 1) 43 #[.int .i64 a1, .int .i64 ((a2 + Sp.sumB (q.take j) : Nat)), .int .i64 a3, .int .i64 a4] ∧ Only (w.heap.size + 1) w5 wi) (fun v8 _ => q.length - (intOf v8).toNat)
        case atStart => exact ⟨0, Nat.zero_le _, rfl, by have := Y5.out; simpa [Sp.sumB] using this, Only.refl _ _⟩
        case round =>
          obtain ⟨j, hj, rfl, hy, ho⟩ := hrel
          have HY6 := Lib.hid hy
          have HO6 := Lib.hid ho
          by_cases hlj : j < q.length
          · obtain ⟨gq, oq, rfl, hge, cd⟩ := D5.out j hlj
            have CD := Lib.hid (ho.cell (by have := GE.out; omega) cd)
            have SJ := Lib.hid (Sp.sumB_take q j hlj)
            have SL := Sp.sumB_le 48 (q.take j) fun v hv => QD.out v (List.mem_of_mem_take hv)
            rw [List.length_take] at SL
            have dl := QD.out _ (List.getElem_mem hlj)
            obtain ⟨y, hyy⟩ : ∃ y, y = q[j] := ⟨_, rfl⟩
            rw [← hyy] at CD SJ dl
            obtain ⟨sm, hsm⟩ : ∃ sm, sm = a2 + Sp.sumB (q.take j) := ⟨_, rfl⟩
            rw [← hsm] at HY6
            have SL2 : sm ≤ 200000000 := by
              have := Nat.mul_le_mul_right 48 (Nat.min_le_left j q.length)
              omega
            have SJ2 := Lib.hid (show a2 + Sp.sumB (q.take (j + 1)) = sm + y.data.length by rw [SJ.out, hsm]; omega)
            have jb : (j : Int) < (q.length : Int) := by omega
            have sz := strOf_size y.data
            have wz : IntKind.i64.wrap ((sm : Int) + (y.data.length : Int)) = (sm : Int) + (y.data.length : Int) := IntWalk.i64_in _ (by omega)
            clear hy ho hge cd hyy hsm SL SJ
            go_wp2_with fail
            refine wp_region_det_tail (fun W => Ext wr W) 9 (by kernel_rfl) (by kernel_rfl) (Below.refl _ _).drew ?_
            simp only [List.take_succ_cons, List.take_zero, List.drop_succ_cons, List.drop_zero]
            repeat (first
              | (refine det_step (fun K hK => ?_)
                 apply Exists.intro
                 refine ⟨Or.inl ⟨rfl, fun W hS => ?_⟩, ?_⟩
                 · have hz : Ext wr W := hS; have f1 := ((HY6.out.below hz).cell 1).trans rfl; have fd := hz.cell CD.out
                   go_simp
                   first
                   | exact rfl
                   | exact ⟨rfl, hS⟩
                   | (fail)
                 go_simp
                 refine hK _ ?_
                 clear hK K)
              | (refine det_step (fun K hK => ?_); refine det_no' rfl ?_; go_simp; refine hK _ ?_; clear hK K))
            refine det_nil ?_
            intro W7 hS
            replace hS : Ext wr W7 := hS
            have Y7 := Lib.hid (HY6.out.below hS)
            have O7 := Lib.hid (HO6.out.trans (Only.of_below _ hS))
            have f1 := (Y7.out.cell 1).trans rfl
            have g1 := Y7.out.frozen 1
            clear hS
            go_wp2
            go_roundw
            case rel =>
              refine ⟨j + 1, by omega, by go_num, ?_, O7.out.trans (Only.set _ _ _ _)⟩
              rw [SJ2.out, show ((sm + y.data.length : Nat) : Int) = (sm : Int) + (y.data.length : Int) by omega]
              exact Y7.out.put 1 _ rfl
            case measure => simp [intOf]; omega
          · obtain rfl : j = q.length := by omega
            rw [List.take_length] at HY6
            have SL := Sp.sumB_le 48 q QD.out
            obtain ⟨sm, hsm⟩ : ∃ sm, sm = Sp.sumB q := ⟨_, rfl⟩
            rw [← hsm] at HY6 SL UU
            clear hy ho hsm
            have EW := Lib.hid (show Ext w wr from Below.trans B5.out (HO6.out.below (Nat.le_succ _) B5.out.size))
            have X6 := Lib.hid (HO6.out.blk X5.out (by omega))
            have Y6 := Lib.hid (show isBlk wr (w.heap.size + 1) 43 #[.int .i64 a1, .int .i64 ((a2 : Int) + sm), .int .i64 a3, .int .i64 a4] by
              have := HY6.out
              rwa [Int.natCast_add] at this)
            have x1 := EW.out.cell C1.out
            have y0 := (Y6.out.cell 0).trans rfl
            have y2 := (Y6.out.cell 2).trans rfl
            have y3 := (Y6.out.cell 3).trans rfl
            have g0 := Y6.out.frozen 0
            have g2 := Y6.out.frozen 2
            have sm2 : sm ≤ 10000 := by omega
            obtain ⟨mf, hmf⟩ : ∃ mf, mf = min q.length 1 := ⟨_, rfl⟩
            obtain ⟨ms, hms⟩ : ∃ ms, ms = q.length - 1 := ⟨_, rfl⟩
            obtain ⟨dn, hdn⟩ : ∃ dn, dn = x.2.length - q.length := ⟨_, rfl⟩
            rw [← hmf, ← hms, ← hdn] at UU
            have m1 : min (q.length : Int) 1 = (mf : Int) := by omega
            have m2 : max (q.length : Int) 1 = (ms : Int) + 1 := by omega
            have m3 : IntKind.i64.wrap ((x.2.length : Int) - (q.length : Int)) = (dn : Int) := by rw [IntWalk.i64_in _ (by omega)]; omega
            have mfb : mf ≤ 1 := by omega
            have msb : ms ≤ 64 := by omega
            have dnb : dn ≤ 64 := by omega
            have m4 : IntKind.i64.wrap ((a4 : Int) + (dn : Int)) = (a4 : Int) + (dn : Int) := IntWalk.i64_in _ (by omega)
            have HM := Lib.hid hmf
            clear hmf hms hdn SL HY6 HO6
            go_upto_region 13 with fail
            obtain ⟨w8, hw8⟩ : ∃ w8, w8 = (wr.setCell ⟨w.heap.size + 1, 0, none⟩ (.int .i64 ((a1 : Int) + mf))).setCell ⟨w.heap.size + 1, 2, none⟩ (.int .i64 ((a3 : Int) + ms)) := ⟨_, rfl⟩
            have Y8 := Lib.hid (show isBlk w8 (w.heap.size + 1) 43 #[.int .i64 ((a1 : Int) + mf), .int .i64 ((a2 : Int) + sm), .int .i64 ((a3 : Int) + ms), .int .i64 a4] by rw [hw8]; exact (Y6.out.put 0 _ rfl).put 2 _ rfl)
            have X8 := Lib.hid (show isBlk w8 w.heap.size 43 #[.int .i64 0, .int .i64 0, .int .i64 0, .int .i64 0] by rw [hw8]; exact (X6.out.far (by simp) _).far (by simp) _)
            have E8 := Lib.hid (show Ext w w8 by rw [hw8]; exact (EW.out.setCell (p := ⟨w.heap.size + 1, 0, none⟩) (by simp) _).setCell (p := ⟨w.heap.size + 1, 2, none⟩) (by simp) _)
            rw [← hw8]
            clear hw8 x1 y0 y2 y3 g0 g2 X6 Y6
            refine wp_region_det_tail (fun W => Ext w8 W) 12 (by kernel_rfl) (by kernel_rfl) (Below.refl _ _).drew ?_
            simp only [List.take_succ_cons, List.take_zero, List.drop_succ_cons, List.drop_zero]
            repeat (first
              | (refine det_step (fun K hK => ?_)
                 apply Exists.intro
                 refine ⟨Or.inl ⟨rfl, fun W hS => ?_⟩, ?_⟩
                 · have hz : Ext w8 W := hS; have f3 := ((Y8.out.below hz).cell 3).trans rfl; have fd := (E8.out.trans hz).cell C1.out
                   go_simp
                   first
                   | exact rfl
                   | exact ⟨rfl, hS⟩
                   | (fail)
                 go_simp
                 refine hK _ ?_
                 clear hK K)
              | (refine det_step (fun K hK => ?_); refine det_no' rfl ?_; go_simp; refine hK _ ?_; clear hK K))
            refine det_nil ?_
            intro W9 hS
            replace hS : Ext w8 W9 := hS
            have Y9 := Lib.hid (Y8.out.below hS)
            have X9 := Lib.hid (X8.out.below hS)
            have E9 := Lib.hid (E8.out.trans hS)
            have f3 := (Y9.out.cell 3).trans rfl
            have g3 := Y9.out.frozen 3
            clear hS
            go_wp2
            go_roundw
            case rel =>
              refine ⟨k + 1, by omega, by go_num, ?_, X9.out.far (by simp) _, E9.out.setCell (p := ⟨w.heap.size + 1, 3, none⟩) (by simp) _⟩
              rw [ST2.out, Sp.useSum_snoc, UU.out, ← HQ.out]
              unfold useC Sp.useA
              simp only [Int.natCast_add]
              exact Y9.out.put 3 _ rfl
            case measure => simp [intOf]; omega
    · obtain rfl : k = l.length := by omega
      rw [List.take_length] at hy
      obtain ⟨s, hsm⟩ : ∃ s, s = Sp.useSum (Sp.inUses l d) := ⟨_, rfl⟩
      rw [← hsm] at hy
      have HSM := Lib.hid hsm
      obtain ⟨a1, a2, a3, a4⟩ := s
      have Z6 := Lib.hid (show isBlk wr (w.heap.size + 1) 43 #[.int .i64 a1, .int .i64 a2, .int .i64 a3, .int .i64 a4] from hy)
      have z0 := (Z6.out.cell 0).trans rfl
      have z1 := (Z6.out.cell 1).trans rfl
      have z2 := (Z6.out.cell 2).trans rfl
      have z3 := (Z6.out.cell 3).trans rfl
      have r0 := (HX.out.cell 0).trans rfl
      have r1 := (HX.out.cell 1).trans rfl
      have r2 := (HX.out.cell 2).trans rfl
      have r3 := (HX.out.cell 3).trans rfl
      have g0 := HX.out.frozen 0
      have g1 := HX.out.frozen 1
      have g2 := HX.out.frozen 2
      have g3 := HX.out.frozen 3
      clear hy hx hb hsm
      go_wp2
      refine bodyPost_ret (results_cell_row rfl _ _ w.heap.size 43 #[.int .i64 a1, .int .i64 a2, .int .i64 a3, .int .i64 a4] (0, 0) _ rfl ((((HX.out.put 0 _ rfl).put 1 _ rfl).put 2 _ rfl).put 3 _ rfl) Tryz.underlying43 rfl (by kernel_rfl)) rfl ?_
      exact ⟨by rw [← HSM.out]; rfl, (((HB.out.setCell (p := ⟨w.heap.size, 0, none⟩) (by simp) _).setCell (p := ⟨w.heap.size, 1, none⟩) (by simp) _).setCell (p := ⟨w.heap.size, 2, none⟩) (by simp) _).setCell (p := ⟨w.heap.size, 3, none⟩) (by simp) _⟩
end Go.Proofs.YteiblfcehlibpaaGreatDoor
namespace Go.Proofs.YteiblfcehlibpaaGreatDoor
open Go.RowKit Go.Shelf
attribute [local go_sem] yUpon strOf_toList
namespace Sp
def exA : Ver := ⟨(0, 1), [], false, [97, 98, 99]⟩
def exB : Ver := ⟨(0, 2), [], false, [100]⟩
def exC : Ver := ⟨(1, 1), [], false, [101]⟩
def ex45 : List DE := [([97, 47, 120], [exA]), ([98], [exB, exC])]
theorem ex45_code : (ofT none ex45).2 = 0 := by decide +kernel
theorem ex45_use : useSum (ofU (ofT none ex45).1 (rof [] ex45).1 []) = (2, 5, 1, 0) := by decide +kernel
end Sp
theorem ver_one {w : World} {g : Nat} {t : TypeId} (v : Sp.Ver) (hv : v.past = []) (h : isBlk w g t (verC none 0 v)) : Vers w (some ⟨g, 0, none⟩) [v] :=
  ⟨[(none, 0, v)], rfl, fun _ => ⟨g, 0, rfl, fun i u hi => by
    rw [Nat.zero_add, h.cell i]
    have : (verC none 0 v).toList ++ [] = (verC none 0 v).toList := List.append_nil _
    rw [versC, versC, this] at hi
    simpa using hi⟩, fun x hx => by
    obtain rfl := List.mem_singleton.1 hx
    exact ⟨by rw [hv]; exact Cells.nil _ _, by rw [hv]; exact Nat.zero_le _⟩⟩
theorem ver_two {w : World} {g : Nat} {t : TypeId} (v u : Sp.Ver) (hv : v.past = []) (hu : u.past = []) (h : isBlk w g t ((verC none 0 v).toList ++ (verC none 0 u).toList).toArray) : Vers w (some ⟨g, 0, none⟩) [v, u] :=
  ⟨[(none, 0, v), (none, 0, u)], rfl, fun _ => ⟨g, 0, rfl, fun i x hi => by
    rw [Nat.zero_add, h.cell i]
    have : (verC none 0 u).toList ++ [] = (verC none 0 u).toList := List.append_nil _
    rw [versC, versC, versC, this] at hi
    simpa using hi⟩, fun x hx => by
    rcases List.mem_cons.1 hx with rfl | hx
    · exact ⟨by rw [hv]; exact Cells.nil _ _, by rw [hv]; exact Nat.zero_le _⟩
    · obtain rfl := List.mem_singleton.1 hx
      exact ⟨by rw [hu]; exact Cells.nil _ _, by rw [hu]; exact Nat.zero_le _⟩⟩
theorem bslice_two {P : Program} {ops : Array Oper} {rest : List Oper} {o : Oper} {a : Act} {w : World} {Q : Exit → Act → World → Prop} (hg : o.guard = none) (t e : TypeId) (x y : Operand) (ho : o.op = .buildSlice t 2 #[(0, x), (1, y)]) {size bytes : Nat} (hst : AppStat P t e size bytes) (hs : size ≤ 1000)
    (c0 c1 : Array Value) (hx : (a.eval x).cells = c0) (hy : (a.eval y).cells = c1) (h0 : c0.size = size) (h1 : c1.size = size)
    (h : wpList P ops Q rest (a.put o.dst (.slice (some ⟨w.heap.size, 0, none⟩) 2 2)) (w.alloc (.cells (c0.toList ++ c1.toList).toArray e))) : wpList P ops Q (o :: rest) a w := by
  obtain ⟨hu, hz0, _, i, zz, hi, hz, hsz, _, hzs⟩ := hst
  refine wpList_buildSlice hg t e 2 #[(0, x), (1, y)] ho (c0.toList ++ c1.toList).toArray i zz hu hi hz (by rw [hsz]; omega) (by rw [hsz]; omega) ?_ h
  have := Great.fill_whole (s := i.size) (by omega) [a.eval x, a.eval y] ((Array.range (2 * i.size)).map (zz.cells[· % zz.cells.size]!)) (by
    intro v hv
    simp only [List.mem_cons, List.not_mem_nil, or_false] at hv
    rcases hv with rfl | rfl
    · rw [hx, h0, hsz]
    · rw [hy, h1, hsz]) (by simp)
  simpa [hx, hy] using this
set_option maxRecDepth 100000 in
set_option maxHeartbeats 4000000 in
theorem awake45_calls (w : World) (K : KeysAt w 4) (M : MaxAt w) :
    Calls Tryz.prog 24 #[] w fun e w' => e = .returned (.bool true) ∧ Ext w w' := by
  have KK := Lib.hid K
  have MM := Lib.hid M
  have tok : True := trivial
  have tok2 : True := trivial
  have tok3 : True := trivial
  clear K M
  go_enter Tryz.func24, Tryz.ntmps24
  go_wp2_with (first
    | (have _t := tok; (with_reducible refine at_bslice rfl ?_); refine bslice_new rfl 49 75 _ rfl appVer (by decide) (verC none 0 Sp.exA) rfl rfl ?_; intro gv wv hgv hxv hbv; have XV := Lib.hid hxv; have BV := Lib.hid hbv; clear tok _t hgv hxv hbv)
    | (have _t := tok2; (with_reducible refine at_bslice rfl ?_); refine bslice_two rfl 49 75 _ _ rfl appVer (by decide) (verC none 0 Sp.exB) (verC none 0 Sp.exC) rfl rfl rfl rfl ?_; clear tok2 _t)
    | (have _t := tok3; (with_reducible refine at_bslice rfl ?_); refine bslice_two rfl 22 51 _ _ rfl appEnt (by decide) #[.string (strOf [97, 47, 120]), .slice (some ⟨gv, 0, none⟩) 1 1] #[.string (strOf [98]), .slice (some ⟨wv.heap.size, 0, none⟩) 2 2] rfl rfl rfl rfl ?_; clear tok3 _t))
  obtain ⟨w0, hw0⟩ : ∃ w0, w0 = wv.alloc (.cells ((verC none 0 Sp.exB).toList ++ (verC none 0 Sp.exC).toList).toArray 75) := ⟨_, rfl⟩
  have X0 := (show isBlk w0 wv.heap.size 75 ((verC none 0 Sp.exB).toList ++ (verC none 0 Sp.exC).toList).toArray by rw [hw0]; exact box_at wv _ _)
  have E0 := Lib.hid (show Ext wv w0 by rw [hw0]; exact Ext.alloc _ _)
  have S0 := Lib.hid (show w0.heap.size = wv.heap.size + 1 by rw [hw0, World.size_alloc])
  obtain ⟨w1, hw1⟩ : ∃ w1, w1 = w0.alloc (.cells #[.string (strOf [97, 47, 120]), .slice (some ⟨gv, 0, none⟩) 1 1, .string (strOf [98]), .slice (some ⟨wv.heap.size, 0, none⟩) 2 2] 51) := ⟨_, rfl⟩
  have X1 := (show isBlk w1 (wv.heap.size + 1) 51 #[.string (strOf [97, 47, 120]), .slice (some ⟨gv, 0, none⟩) 1 1, .string (strOf [98]), .slice (some ⟨wv.heap.size, 0, none⟩) 2 2] by rw [hw1, ← S0.out]; exact box_at w0 _ _)
  have E1 := Lib.hid (show Ext w0 w1 by rw [hw1]; exact Ext.alloc _ _)
  have HV := ver_one Sp.exA rfl (XV.out.below (E0.out.trans E1.out))
  have HV2 := ver_two Sp.exB Sp.exC rfl rfl (X0.below E1.out)
  have HE := Lib.hid (show EntsAt w1 (some ⟨wv.heap.size + 1, 0, none⟩) Sp.ex45 from ⟨[(some ⟨gv, 0, none⟩, 1, ([97, 47, 120], [Sp.exA])), (some ⟨wv.heap.size, 0, none⟩, 2, ([98], [Sp.exB, Sp.exC]))], rfl, fun _ => ⟨wv.heap.size + 1, 0, rfl, fun i u hi => by
    rw [Nat.zero_add, X1.cell i]
    rw [show entsC [(some (⟨gv, 0, none⟩ : Addr), 1, (([97, 47, 120], [Sp.exA]) : Sp.DE)), (some ⟨wv.heap.size, 0, none⟩, 2, ([98], [Sp.exB, Sp.exC]))] = [.string (strOf [97, 47, 120]), .slice (some ⟨gv, 0, none⟩) 1 1, .string (strOf [98]), .slice (some ⟨wv.heap.size, 0, none⟩) 2 2] from rfl] at hi
    simpa using hi⟩, fun x hx => by
    simp only [List.mem_cons, List.not_mem_nil, or_false] at hx
    rcases hx with rfl | rfl
    · exact HV
    · exact HV2⟩)
  have B1 := Lib.hid (BV.out.trans (E0.out.trans E1.out))
  have OC := Lib.hid (of_calls Sp.ex45 (some ⟨wv.heap.size + 1, 0, none⟩) 2 w1 HE.out (by decide) (KK.out.ext B1.out) (max_kept MM.out B1.out))
  rw [Sp.ex45_code] at OC
  have BO := Lib.hid (Sp.both_of Sp.ex45)
  have EU := Lib.hid Sp.ex45_use
  obtain ⟨o, ho⟩ : ∃ o, o = (Sp.ofT none Sp.ex45).1 := ⟨_, rfl⟩
  obtain ⟨m, hm⟩ : ∃ m, m = (Sp.rof [] Sp.ex45).1 := ⟨_, rfl⟩
  rw [← ho] at OC BO EU
  rw [← hm] at BO EU
  show Calls Tryz.prog 22 #[.slice (some ⟨wv.heap.size + 1, 0, none⟩) 2 2] ((wv.alloc (.cells ((verC none 0 Sp.exB).toList ++ (verC none 0 Sp.exC).toList).toArray 75)).alloc (.cells #[.string (strOf [97, 47, 120]), .slice (some ⟨gv, 0, none⟩) 1 1, .string (strOf [98]), .slice (some ⟨wv.heap.size, 0, none⟩) 2 2] 51)) _
  rw [← hw0, ← hw1]
  clear hw0 hw1 X0 X1 HV HV2 ho hm
  refine OC.out.mono ?_
  rintro e w2 ⟨v2, rfl, ht2, hb2⟩
  have T2 := Lib.hid ht2
  have B2 := Lib.hid (B1.out.trans hb2)
  clear ht2 hb2
  have QC := Lib.hid (qof_calls o v2 m BO.out [] w2 T2.out (KK.out.ext B2.out) (max_kept MM.out B2.out))
  rw [EU.out] at QC
  obtain ⟨ap, rfl⟩ := tree_ptr T2.out
  go_wp2_with fail
  refine (show Calls Tryz.prog 25 #[.pointer ap, .string (strOf [])] w2 fun e w' => e = .returned (.agg #[.int .i64 2, .int .i64 5, .int .i64 1, .int .i64 0]) ∧ Ext w2 w' from QC.out).mono ?_
  rintro e w3 ⟨rfl, hb3⟩
  go_wp2
  go_ret
  exact ⟨rfl, B2.out.trans hb3⟩
end Go.Proofs.YteiblfcehlibpaaGreatDoor
namespace Go.Proofs.YteiblfcehlibpaaGreatDoor
open Go.RowKit
namespace Sp
theorem useFold (l : List Use) : ∀ a : Use, l.foldl useA a = (a.1 + (l.map fun u => u.1).sum, a.2.1 + (l.map fun u => u.2.1).sum, a.2.2.1 + (l.map fun u => u.2.2.1).sum, a.2.2.2 + (l.map fun u => u.2.2.2).sum) := by
  induction l with
  | nil => intro a; rfl
  | cons u r ih =>
    intro a
    rw [List.foldl_cons, ih]
    simp only [useA, List.map_cons, List.sum_cons, Nat.add_assoc]
theorem useSum_eq (l : List Use) : useSum l = ((l.map fun u => u.1).sum, (l.map fun u => u.2.1).sum, (l.map fun u => u.2.2.1).sum, (l.map fun u => u.2.2.2).sum) := by
  unfold useSum
  rw [useFold]
  simp [useZ]
theorem node_get {o : Option T} {m : List DE} (h : Both o m) {d : Bs} (hd : d ≠ []) : (nodeS (o.getD .nil) d).1 = rget m d := by
  by_cases hp : parts d = []
  · have hc : check d ≠ 0 := fun h => by
      have h2 := (check_parts h).1
      rw [hp] at h2
      exact split_ne d h2.symm
    rw [rget_bad h.gm.1 hc]
    have : findS (o.getD .nil) d = none := by unfold findS; rw [if_neg hd, if_pos hp]
    rw [nodeS, this]
  · have hdir : Dir d := .inr (check_of_parts hp)
    obtain ⟨f1, f2⟩ := at_both h.eq h.go h.gm d hdir
    have hs : findS (o.getD .nil) d = findT (o.getD .nil) (parts d) := by unfold findS; rw [if_neg hd, if_neg hp]
    rw [nodeS, hs]
    cases hf : findT (o.getD .nil) (parts d) with
    | none =>
      rw [hf] at f1
      rw [get_subs m h.gm.1 d hdir, f1]
      rfl
    | some s =>
      obtain ⟨g1, g2, g3⟩ := f2 s hf
      rw [g2]
      exact nodeT_leaf s
theorem get_sum (f : List Ver → Nat) (f0 : f [] = 0) (d : Bs) : ∀ m : List DE, RiseE (toP m) → ((m.filter fun e => decide (e.1 = d)).map fun e => f e.2).sum = f (rget m d)
  | [], _ => by rw [rget, f0]; rfl
  | e :: r, hr => by
    have hr' : RiseE (toP r) := (List.pairwise_cons.1 hr).2
    rw [rget]
    by_cases h : e.1 = d
    · rw [if_pos h, List.filter_cons_of_pos (by simpa using h)]
      have : r.filter (fun e => decide (e.1 = d)) = [] := by
        rw [List.filter_eq_nil_iff]
        intro x hx hx2
        have h1 := (List.pairwise_cons.1 hr).1 (split x.1, x.2) (List.mem_map.2 ⟨x, hx, rfl⟩)
        have h2 : x.1 = d := by simpa using hx2
        simp only [h2, h, cmpP_self] at h1
        cases h1
      rw [this]; simp
    · rw [if_neg h, List.filter_cons_of_neg (by simpa using h)]
      exact get_sum f f0 d r hr'
theorem under_self (d : Bs) : under d d = false := by
  cases h : under d d with
  | false => rfl
  | true => have := (under_parts h).2.2.1; omega
theorem under_top {p : Bs} (h : check p = 0) : under p [] = true := by
  have h1 := (check_parts h).1
  have h2 := split_ne p
  refine under_of ⟨by rw [h1]; exact h2, .inl rfl, ?_, ?_⟩
  · rw [parts_empty, h1]; exact List.length_pos_iff.2 h2
  · rw [parts_empty]; rfl
theorem in_split (f : List Ver → Nat) {d : Bs} (hd : d ≠ []) : ∀ m : List DE, ((m.filter fun e => inS e.1 d).map fun e => f e.2).sum = ((m.filter fun e => decide (e.1 = d)).map fun e => f e.2).sum + ((m.filter fun e => under e.1 d).map fun e => f e.2).sum
  | [] => rfl
  | e :: r => by
    have ih := in_split f hd r
    by_cases h : e.1 = d
    · have hu : under e.1 d = false := by rw [h]; exact under_self d
      have hi : inS e.1 d = true := by unfold inS; simp [h]
      rw [List.filter_cons_of_pos (by simpa using hi), List.filter_cons_of_pos (by simpa using h), List.filter_cons_of_neg (by simpa using hu), List.map_cons, List.sum_cons, List.map_cons, List.sum_cons, ih]
      omega
    · cases hu : under e.1 d with
      | true =>
        have hi : inS e.1 d = true := by unfold inS; simp [hu]
        rw [List.filter_cons_of_pos (by simpa using hi), List.filter_cons_of_neg (by simpa using h), List.filter_cons_of_pos (by simpa using hu), List.map_cons, List.sum_cons, List.map_cons, List.sum_cons, ih]
        omega
      | false =>
        have hi : inS e.1 d = false := by unfold inS; simp [hu, h, hd]
        rw [List.filter_cons_of_neg (by simpa using hi), List.filter_cons_of_neg (by simpa using h), List.filter_cons_of_neg (by simpa using hu), ih]
theorem use_sum (f : List Ver → Nat) (f0 : f [] = 0) {o : Option T} {m : List DE} (h : Both o m) (d : Bs) :
    (if d ≠ [] then f (nodeS (o.getD .nil) d).1 else 0) + ((wunder m d).map fun e => f e.2).sum = ((m.filter fun e => inS e.1 d).map fun e => f e.2).sum := by
  by_cases hd : d = []
  · subst hd
    rw [if_neg (by simp), Nat.zero_add]
    congr 2
    unfold wunder
    refine List.filter_congr fun e he => ?_
    rw [under_top (h.gm.1 e he)]
    unfold inS
    simp
  · rw [if_pos hd, in_split f hd, get_sum f f0 d m h.rise, node_get h hd]
    rfl
theorem useL_nil : useL [] = useZ := rfl
/-- What a directory uses is what the document says. -/
theorem use_both {o : Option T} {m : List DE} (h : Both o m) (d : Bs) : useSum (ofU o m d) = useSum (inUses m d) := by
  have key : ∀ π : Use → Nat, π useZ = 0 → ((ofU o m d).map π).sum = ((inUses m d).map π).sum := by
    intro π hπ
    have := use_sum (fun l => π (useL l)) (by rw [useL_nil]; exact hπ) h d
    unfold ofU inUses ofPre
    rw [List.map_append, List.sum_append, List.map_map, List.map_map]
    rw [show (π ∘ fun e : DE => useL e.2) = fun e => π (useL e.2) from rfl, ← this]
    congr 1
    split <;> simp
  rw [useSum_eq, useSum_eq, key _ rfl, key _ rfl, key _ rfl, key _ rfl]
end Sp
end Go.Proofs.YteiblfcehlibpaaGreatDoor
namespace Go.Proofs.YteiblfcehlibpaaGreatDoor
open Go.RowKit Go.Shelf
attribute [local go_sem] yUpon strOf_toList
set_option maxRecDepth 100000 in
set_option maxHeartbeats 4000000 in
theorem quotaUses_calls (l : List Sp.DE) (A : Option Addr) (cap : Nat) (d : Sp.Bs) (w : World) (hE : EntsAt w A l) (K : KeysAt w 4) (M : MaxAt w) :
    Calls Tryz.prog 5 #[.slice A l.length cap, .string (strOf d)] w fun e w' => e = .returned (.bool true) ∧ Ext w w' := by
  have KK := Lib.hid K
  have MM := Lib.hid M
  have HE := Lib.hid hE
  have AW := Lib.hid fun W (e : Ext w W) => awake45_calls W (K.ext e) (max_kept M e)
  clear K M hE
  go_enter Tryz.func5, Tryz.ntmps5
  go_wp2_with fail
  refine (great15_calls l A cap 16 w HE.out (by decide)).mono ?_
  rintro e w1 ⟨b, rfl, hgr, hb1⟩
  have B1 := Lib.hid (show Ext w w1 from hb1)
  clear hb1
  cases b with
  | true =>
    go_wp2_with fail
    refine (AW.out w1 B1.out).mono ?_
    rintro e w2 ⟨rfl, hb2⟩
    go_wp2
    go_ret
    exact ⟨rfl, B1.out.trans hb2⟩
  | false =>
    obtain ⟨hl, hp⟩ := hgr rfl
    by_cases hd : 100 < (strOf d).size
    · have c1 : (100 : Int) < ((strOf d).size : Int) := by omega
      go_wp2_with fail
      refine (AW.out w1 B1.out).mono ?_
      rintro e w2 ⟨rfl, hb2⟩
      go_wp2
      go_ret
      exact ⟨rfl, B1.out.trans hb2⟩
    · have c1 : ¬ (100 : Int) < ((strOf d).size : Int) := by omega
      have DL := Lib.hid (show d.length ≤ 1000000 by rw [strOf_size] at hd; omega)
      clear hd
      go_wp2_with fail
      refine (of_calls l A cap w1 (HE.out.ext B1.out) (by omega) (KK.out.ext B1.out) (max_kept MM.out B1.out)).mono ?_
      rintro e w2 ⟨v2, rfl, ht2, hb2⟩
      have T2 := Lib.hid ht2
      have B2 := Lib.hid (B1.out.trans hb2)
      clear ht2 hb2
      have BO := Lib.hid (Sp.both_of l)
      obtain ⟨o, ho⟩ : ∃ o, o = (Sp.ofT none l).1 := ⟨_, rfl⟩
      obtain ⟨m, hm⟩ : ∃ m, m = (Sp.rof [] l).1 := ⟨_, rfl⟩
      rw [← ho] at T2 BO
      rw [← hm] at BO
      clear ho hm
      have QC := Lib.hid (qof_calls o v2 m BO.out d w2 T2.out (KK.out.ext B2.out) (max_kept MM.out B2.out))
      rw [Sp.use_both BO.out] at QC
      have EC := Lib.hid fun W (e : Ext w2 W) => entries_calls o v2 W (T2.out.ext e) BO.out.go BO.out.short (KK.out.ext (B2.out.trans e))
      rw [BO.out.told] at EC
      have RC := Lib.hid fun A c W (h : EntsAt W A m) => rqof_calls m A c d W h BO.out.gm.2 BO.out.mlen DL.out BO.out.fits
      obtain ⟨u, hu⟩ : ∃ u, u = Sp.useSum (Sp.inUses m d) := ⟨_, rfl⟩
      rw [← hu] at QC RC
      obtain ⟨a1, a2, a3, a4⟩ := u
      obtain ⟨ap, rfl⟩ := tree_ptr T2.out
      clear hp hu
      go_wp2_with fail
      refine (show Calls Tryz.prog 25 #[.pointer ap, .string (strOf d)] w2 fun e w' => e = .returned (.agg #[.int .i64 a1, .int .i64 a2, .int .i64 a3, .int .i64 a4]) ∧ Ext w2 w' from QC.out).mono ?_
      rintro e w3 ⟨rfl, hb3⟩
      have B3 := Lib.hid hb3
      clear hb3
      go_wp2_with fail
      refine (EC.out w3 B3.out).mono ?_
      rintro e w4 ⟨A4, c4, rfl, hE4, hb4⟩
      have RC2 := Lib.hid (show Calls Tryz.prog 26 #[.slice A4 m.length c4, .string (strOf d)] w4 fun e w' => e = .returned (.agg #[.int .i64 a1, .int .i64 a2, .int .i64 a3, .int .i64 a4]) ∧ Ext w4 w' from RC.out A4 c4 w4 hE4)
      have B4 := Lib.hid (B3.out.trans hb4)
      clear hE4 hb4
      go_wp2_with fail
      refine RC2.out.mono ?_
      rintro e w5 ⟨rfl, hb5⟩
      have B5 := Lib.hid (B2.out.trans (B4.out.trans hb5))
      clear hb5
      go_upto_region 5 with fail
      obtain ⟨w6, hw6⟩ : ∃ w6, w6 = (w5.alloc (.cells #[.int .i64 a1, .int .i64 a2, .int .i64 a3, .int .i64 a4] 41)).alloc (.cells #[.int .i64 a1, .int .i64 a2, .int .i64 a3, .int .i64 a4] 43) := ⟨_, rfl⟩
      have X6 := Lib.hid (show isBlk w6 w5.heap.size 41 #[.int .i64 a1, .int .i64 a2, .int .i64 a3, .int .i64 a4] by rw [hw6]; exact (box_at w5 _ _).alloc _)
      have Y6 := Lib.hid (show isBlk w6 (w5.heap.size + 1) 43 #[.int .i64 a1, .int .i64 a2, .int .i64 a3, .int .i64 a4] by
        rw [hw6]
        have := box_at (w5.alloc (.cells #[.int .i64 a1, .int .i64 a2, .int .i64 a3, .int .i64 a4] 41)) #[.int .i64 a1, .int .i64 a2, .int .i64 a3, .int .i64 a4] 43
        rwa [World.size_alloc] at this)
      have B6 := Lib.hid (B5.out.trans (show Ext w5 w6 by rw [hw6]; exact Below.alloc (Ext.alloc _ _) (by simp) _))
      rw [← hw6]
      clear hw6
      have f0 := (X6.out.cell 0).trans rfl
      have f1 := (X6.out.cell 1).trans rfl
      have f2 := (X6.out.cell 2).trans rfl
      have f3 := (X6.out.cell 3).trans rfl
      have k0 := (Y6.out.cell 0).trans rfl
      have k1 := (Y6.out.cell 1).trans rfl
      have k2 := (Y6.out.cell 2).trans rfl
      have k3 := (Y6.out.cell 3).trans rfl
      go_wp2_with fail
      refine (AW.out w6 B6.out).mono ?_
      rintro e w7 ⟨rfl, hb7⟩
      go_wp2
      go_ret
      exact ⟨rfl, B6.out.trans hb7⟩
theorem quotaUses_bs (l : List Sp.DE) (A : Option Addr) (cap : Nat) (d : ByteArray) (w : World) (hE : EntsAt w A l) (K : KeysAt w 4) (M : MaxAt w) :
    Calls Tryz.prog 5 #[.slice A l.length cap, .string d] w fun e w' => e = .returned (.bool true) ∧ Ext w w' := by
  have := quotaUses_calls l A cap d.data.toList w hE K M
  rwa [strOf_self] at this
end Go.Proofs.YteiblfcehlibpaaGreatDoor
