/- Siblings: which of two wins (some answer), and the winner. Siblings: the winner of a leaf: some version of it, if any is alive. The winner of a leaf, plain. Siblings: which of two wins, and the winner. Walks: what is seen of entries: the document's. Walks: the document's node of a directory is the tree's. What is found in a tree is what the document's list has there: plain. What is seen of a tree is a tree; a tree's entries with whole paths: plain. -/
import Derived.Laws.ResultCell
import Derived.Test.YtmlfnidckfeebaaGreatDoorQQ019
namespace Go.Proofs.YtmlfnidckfeebaaGreatDoor
open Go.RowKit Go.Shelf
attribute [local go_sem] yUpon strOf_toList
set_option maxRecDepth 100000 in
theorem isnan_int (x : Int) (w : World) : Calls Tryz.prog 165 #[.int .i64 x] w fun e w' => e = .returned (.bool false) ∧ w = w' := by
  have h : (x != x) = false := by simp
  go_enter Tryz.func165, Tryz.ntmps165
  go_wp2
  go_ret
  exact ⟨rfl, rfl⟩
end Go.Proofs.YtmlfnidckfeebaaGreatDoor
namespace Go.Proofs.YtmlfnidckfeebaaGreatDoor
open Go.RowKit Go.Shelf
attribute [local go_sem] yUpon strOf_toList
theorem results_cell_pair {P : Program} {fn : Func} {p u : Tmp} {ty : TypeId} (h : fn.results = #[.cell p ty, .tmp u]) (tmps : Array Value) (w : World) (g : Nat) (t : TypeId) (cs : Array Value) (d : TypeDesc)
    (hp : tmps.getD p undef = .pointer (some ⟨g, 0, none⟩)) (hg : isBlk w g t cs) (hu : P.underlying ty = some d) (hd : (match d with | .struct _ | .array _ _ => true | _ => false) = true) (hi : (P.info? ty).map (·.size) = some cs.size) :
    (results fn tmps).run P w = .ok (.tuple #[.agg cs, tmps.getD u undef]) w := by
  rw [results_cell_tmp h, hp]
  simp only [asAddr, Sem.run_pure, Result.andThen_ok]
  rw [run_loadVar_row w g t ty cs (0, 0) d hg hu hd hi]
  rfl
abbrev verL (A : Option Addr) (c : Nat) (x : Sp.Ver) : Array Value := #[.int .i64 x.dot.1, .int .i64 x.dot.2, .slice A x.past.length c, .bool x.dead, .string (strOf x.data)]
end Go.Proofs.YtmlfnidckfeebaaGreatDoor
namespace Go.Proofs.YtmlfnidckfeebaaGreatDoor
open Go.RowKit
namespace Sp
def winsK (a b : Ver) : Bool := decide (b.dot.2 < a.dot.2) || (decide (a.dot.2 = b.dot.2) && decide (b.dot.1 < a.dot.1))
def wins (a b : Ver) : Bool := if a.dead = b.dead then winsK a b else b.dead
def best : Ver → List Ver → Ver
  | b, [] => b
  | b, v :: r => best (if wins v b = true then v else b) r
def winner (l : List Ver) : Option Ver := match live l with
  | [] => none
  | x :: r => some (best x r)
theorem winsK_iff (a b : Ver) : winsK a b = true ↔ b.dot.2 < a.dot.2 ∨ (a.dot.2 = b.dot.2 ∧ b.dot.1 < a.dot.1) := by simp [winsK]
end Sp
end Go.Proofs.YtmlfnidckfeebaaGreatDoor
namespace Go.Proofs.YtmlfnidckfeebaaGreatDoor
open Go.RowKit Go.Shelf
attribute [local go_sem] yUpon strOf_toList
namespace Sp
def icmp (x y : Int) : Int := if x < y then -1 else if y < x then 1 else 0
def verZ : Ver := ⟨(0, 0), [], false, []⟩
theorem winsK_cmp (a b : Ver) : winsK a b = decide (0 < (if icmp a.dot.2 b.dot.2 = 0 then icmp a.dot.1 b.dot.1 else icmp a.dot.2 b.dot.2)) := by
  rw [Bool.eq_iff_iff, winsK_iff, decide_eq_true_eq]
  unfold icmp
  by_cases h1 : a.dot.2 < b.dot.2
  · simp [h1]
    omega
  · by_cases h2 : b.dot.2 < a.dot.2
    · simp [h1, h2]
    · by_cases h3 : a.dot.1 < b.dot.1
      · simp [h1, h2, h3]
        omega
      · by_cases h4 : b.dot.1 < a.dot.1
        · simp [h1, h2, h3, h4]
          omega
        · simp [h1, h2, h3, h4]
theorem best_take (x : Ver) : ∀ (r : List Ver) (k : Nat) (h : k < r.length), best x (r.take (k + 1)) = if wins r[k] (best x (r.take k)) = true then r[k] else best x (r.take k) := by
  intro r
  induction r generalizing x with
  | nil => intro k h; simp at h
  | cons v s ih =>
    intro k h
    cases k with
    | zero => rfl
    | succ k => exact ih _ k (by simpa using h)
end Sp
theorem icmp_is (x y : Int) (w : World) : Calls Tryz.prog 95 #[.int .i64 x, .int .i64 y] w fun e w' => e = .returned (.int .i64 (Sp.icmp x y)) ∧ w = w' := by
  go_enter Tryz.func95, Tryz.ntmps95
  go_wp2_with fail
  refine (isnan_int x w).mono ?_
  rintro e w1 ⟨rfl, rfl⟩
  go_wp2_with fail
  refine (isnan_int y w).mono ?_
  rintro e w1 ⟨rfl, rfl⟩
  by_cases h1 : x < y
  · go_wp2
    go_ret
    exact ⟨ret_int (by unfold Sp.icmp; split <;> (try split) <;> omega), rfl⟩
  · by_cases h2 : y < x
    · go_wp2
      go_ret
      exact ⟨ret_int (by unfold Sp.icmp; split <;> (try split) <;> omega), rfl⟩
    · go_wp2
      go_ret
      exact ⟨ret_int (by unfold Sp.icmp; split <;> (try split) <;> omega), rfl⟩
set_option maxRecDepth 100000 in
set_option maxHeartbeats 2000000 in
theorem or2_is (x y : Int) (g : Nat) (w : World) (h : isBlk w g 3 #[.int .i64 x, .int .i64 y]) : Calls Tryz.prog 94 #[.slice (some ⟨g, 0, none⟩) 2 2] w fun e w' => e = .returned (.int .i64 (if x = 0 then y else x)) ∧ Ext w w' := by
  have f0 := (h.cell 0).trans rfl
  have f1 := (h.cell 1).trans rfl
  have z0 : ((0 : Int) == 0) = true := rfl
  obtain ⟨rr, hrr⟩ : ∃ rr, rr = if x = 0 then y else x := ⟨_, rfl⟩
  rw [← hrr]
  have RR := Lib.hid hrr
  clear hrr
  go_enter Tryz.func94, Tryz.ntmps94
  go_wp2
  go_loopw [8] (fun v8 wr => ∃ k : Nat, k ≤ 2 ∧ v8 = .int .i64 k ∧ w = wr ∧ (1 ≤ k → x = 0) ∧ (2 ≤ k → y = 0)) (fun v8 _ => 2 - (intOf v8).toNat)
  case atStart => exact ⟨0, by decide, rfl, rfl, by omega, by omega⟩
  case round =>
    obtain ⟨k, hk, rfl, rfl, hx, hy⟩ := hrel
    have h3 : k = 0 ∨ k = 1 ∨ k = 2 := by omega
    rcases h3 with rfl | rfl | rfl
    · clear hx hy
      by_cases hx0 : x = 0
      · subst hx0
        go_wp2
        go_roundw
        case rel => exact ⟨1, by decide, rfl, trivial, (by first | exact fun _ => rfl | exact fun _ => trivial | simp), by omega⟩
        case measure => decide
      · have q1 : (x != 0) = true := by simpa using hx0
        have q2 : (x == 0) = false := by simpa using hx0
        go_wp2
        go_ret
        exact ⟨ret_int (by rw [RR.out, if_neg hx0]), Ext.refl _⟩
    · have hx0 := hx (by decide)
      clear hx hy
      by_cases hy0 : y = 0
      · subst hy0
        go_wp2
        go_roundw
        case rel => exact ⟨2, by decide, rfl, trivial, fun _ => hx0, (by first | exact fun _ => rfl | exact fun _ => trivial | simp)⟩
        case measure => decide
      · have q1 : (y != 0) = true := by simpa using hy0
        have q2 : (y == 0) = false := by simpa using hy0
        go_wp2
        go_ret
        exact ⟨ret_int (by rw [RR.out, if_pos hx0]), Ext.refl _⟩
    · have hx0 := hx (by decide)
      have hy0 := hy (by decide)
      clear hx hy
      go_wp2
      go_ret
      exact ⟨ret_int (by rw [RR.out, if_pos hx0]; first | rfl | exact hy0.symm | simp [hy0]), Ext.refl _⟩
set_option maxRecDepth 100000 in
set_option maxHeartbeats 4000000 in
theorem wins_is (a b : Sp.Ver) (A B : Option Addr) (c d : Nat) (w : World) : Calls Tryz.prog 276 #[.agg (verC A c a), .agg (verC B d b)] w fun e w' => e = .returned (.bool (Sp.wins a b)) ∧ Ext w w' := by
  show Calls Tryz.prog 276 #[.agg #[.int .i64 a.dot.1, .int .i64 a.dot.2, .slice A a.past.length c, .bool a.dead, .string (strOf a.data)], .agg #[.int .i64 b.dot.1, .int .i64 b.dot.2, .slice B b.past.length d, .bool b.dead, .string (strOf b.data)]] w _
  go_enter Tryz.func276, Tryz.ntmps276
  go_upto_region 1 with fail
  obtain ⟨w0, hw0⟩ : ∃ w0, w0 = (w.alloc (.cells #[.int .i64 a.dot.1, .int .i64 a.dot.2, .slice A a.past.length c, .bool a.dead, .string (strOf a.data)] 71)).alloc (.cells #[.int .i64 b.dot.1, .int .i64 b.dot.2, .slice B b.past.length d, .bool b.dead, .string (strOf b.data)] 71) := ⟨_, rfl⟩
  have X0 := Lib.hid (show isBlk w0 w.heap.size 71 #[.int .i64 a.dot.1, .int .i64 a.dot.2, .slice A a.past.length c, .bool a.dead, .string (strOf a.data)] by rw [hw0]; exact (box_at w _ _).alloc _)
  have Y0 := Lib.hid (show isBlk w0 (w.heap.size + 1) 71 #[.int .i64 b.dot.1, .int .i64 b.dot.2, .slice B b.past.length d, .bool b.dead, .string (strOf b.data)] by
    rw [hw0]
    have := box_at (w.alloc (.cells #[.int .i64 a.dot.1, .int .i64 a.dot.2, .slice A a.past.length c, .bool a.dead, .string (strOf a.data)] 71)) #[.int .i64 b.dot.1, .int .i64 b.dot.2, .slice B b.past.length d, .bool b.dead, .string (strOf b.data)] 71
    rwa [World.size_alloc] at this)
  have E0 := Lib.hid (show Ext w w0 by rw [hw0]; exact Below.alloc (Ext.alloc _ _) (by simp) _)
  rw [← hw0]
  clear hw0
  have f3 := (X0.out.cell 3).trans rfl
  have k3 := (Y0.out.cell 3).trans rfl
  obtain ⟨p, hp⟩ : ∃ p, p = a.dead := ⟨_, rfl⟩
  obtain ⟨q, hq⟩ : ∃ q, q = b.dead := ⟨_, rfl⟩
  have WS := Lib.hid (show Sp.wins a b = if p = q then Sp.winsK a b else q by rw [hp, hq]; rfl)
  rw [← hp] at f3
  rw [← hq] at k3
  clear hp hq
  by_cases hpq : p = q
  case neg =>
    have t1 : (p == q) = false := by simpa using hpq
    have W2 := Lib.hid (show Sp.wins a b = q by rw [WS.out, if_neg hpq])
    clear hpq WS
    go_wp2
    go_ret
    exact ⟨ret_bool W2.out.symm, E0.out⟩
  case pos =>
    have t1 : (p == q) = true := by simpa using hpq
    have W2 := Lib.hid (show Sp.wins a b = Sp.winsK a b by rw [WS.out, if_pos hpq])
    clear hpq WS
    go_wp2_with fail
    clear f3 k3 t1
    refine wp_region_planT (fun W => Ext w0 W) 15 [(true, 0), (true, 1), (true, 2), (true, 3), (true, 4), (true, 5), (true, 7), (true, 8), (true, 9), (true, 10), (true, 11), (true, 12), (false, 6), (false, 13), (false, 14)] (by kernel_rfl) (by kernel_rfl) (Ext.refl w0).drew ?_
    refine plan_float rfl (fun K hK => ?_)
    apply Exists.intro
    refine ⟨Or.inl ⟨rfl, fun W hS => ?_⟩, ?_⟩
    · have hz : Ext w0 W := hS; have f0 := ((X0.out.below hz).cell 0).trans rfl; have f1 := ((X0.out.below hz).cell 1).trans rfl; have k0 := ((Y0.out.below hz).cell 0).trans rfl; have k1 := ((Y0.out.below hz).cell 1).trans rfl
      go_simp
      first | done | exact rfl
    go_simp
    refine hK _ ?_
    clear hK K
    refine plan_float rfl (fun K hK => ?_)
    apply Exists.intro
    refine ⟨Or.inl ⟨rfl, fun W hS => ?_⟩, ?_⟩
    · have hz : Ext w0 W := hS; have f0 := ((X0.out.below hz).cell 0).trans rfl; have f1 := ((X0.out.below hz).cell 1).trans rfl; have k0 := ((Y0.out.below hz).cell 0).trans rfl; have k1 := ((Y0.out.below hz).cell 1).trans rfl
      go_simp
      first | done | exact rfl
    go_simp
    refine hK _ ?_
    clear hK K
    refine plan_float rfl (fun K hK => ?_)
    apply Exists.intro
    refine ⟨Or.inl ⟨rfl, fun W hS => ?_⟩, ?_⟩
    · have hz : Ext w0 W := hS; have f0 := ((X0.out.below hz).cell 0).trans rfl; have f1 := ((X0.out.below hz).cell 1).trans rfl; have k0 := ((Y0.out.below hz).cell 0).trans rfl; have k1 := ((Y0.out.below hz).cell 1).trans rfl
      go_simp
      first | done | exact rfl
    go_simp
    refine hK _ ?_
    clear hK K
    refine plan_float rfl (fun K hK => ?_)
    apply Exists.intro
    refine ⟨Or.inl ⟨rfl, fun W hS => ?_⟩, ?_⟩
    · have hz : Ext w0 W := hS; have f0 := ((X0.out.below hz).cell 0).trans rfl; have f1 := ((X0.out.below hz).cell 1).trans rfl; have k0 := ((Y0.out.below hz).cell 0).trans rfl; have k1 := ((Y0.out.below hz).cell 1).trans rfl
      go_simp
      first | done | exact rfl
    go_simp
    refine hK _ ?_
    clear hK K
    refine plan_float rfl (fun K hK => ?_)
    apply Exists.intro
    refine ⟨Or.inl ⟨rfl, fun W hS => ?_⟩, ?_⟩
    · have hz : Ext w0 W := hS; have f0 := ((X0.out.below hz).cell 0).trans rfl; have f1 := ((X0.out.below hz).cell 1).trans rfl; have k0 := ((Y0.out.below hz).cell 0).trans rfl; have k1 := ((Y0.out.below hz).cell 1).trans rfl
      go_simp
      first | done | exact rfl
    go_simp
    refine hK _ ?_
    clear hK K
    refine plan_float rfl (fun K hK => ?_)
    apply Exists.intro
    refine ⟨Or.inl ⟨rfl, fun W hS => ?_⟩, ?_⟩
    · have hz : Ext w0 W := hS; have f0 := ((X0.out.below hz).cell 0).trans rfl; have f1 := ((X0.out.below hz).cell 1).trans rfl; have k0 := ((Y0.out.below hz).cell 0).trans rfl; have k1 := ((Y0.out.below hz).cell 1).trans rfl
      go_simp
      first | done | exact rfl
    go_simp
    refine hK _ ?_
    clear hK K
    refine plan_float rfl (fun K hK => ?_)
    apply Exists.intro
    refine ⟨Or.inl ⟨rfl, fun W hS => ?_⟩, ?_⟩
    · have hz : Ext w0 W := hS; have f0 := ((X0.out.below hz).cell 0).trans rfl; have f1 := ((X0.out.below hz).cell 1).trans rfl; have k0 := ((Y0.out.below hz).cell 0).trans rfl; have k1 := ((Y0.out.below hz).cell 1).trans rfl
      go_simp
      first | done | exact rfl
    go_simp
    refine hK _ ?_
    clear hK K
    refine plan_float rfl (fun K hK => ?_)
    apply Exists.intro
    refine ⟨Or.inl ⟨rfl, fun W hS => ?_⟩, ?_⟩
    · have hz : Ext w0 W := hS; have f0 := ((X0.out.below hz).cell 0).trans rfl; have f1 := ((X0.out.below hz).cell 1).trans rfl; have k0 := ((Y0.out.below hz).cell 0).trans rfl; have k1 := ((Y0.out.below hz).cell 1).trans rfl
      go_simp
      first | done | exact rfl
    go_simp
    refine hK _ ?_
    clear hK K
    refine plan_float rfl (fun K hK => ?_)
    apply Exists.intro
    refine ⟨Or.inl ⟨rfl, fun W hS => ?_⟩, ?_⟩
    · have hz : Ext w0 W := hS; have f0 := ((X0.out.below hz).cell 0).trans rfl; have f1 := ((X0.out.below hz).cell 1).trans rfl; have k0 := ((Y0.out.below hz).cell 0).trans rfl; have k1 := ((Y0.out.below hz).cell 1).trans rfl
      go_simp
      first | done | exact rfl
    go_simp
    refine hK _ ?_
    clear hK K
    refine plan_float rfl (fun K hK => ?_)
    apply Exists.intro
    refine ⟨Or.inl ⟨rfl, fun W hS => ?_⟩, ?_⟩
    · have hz : Ext w0 W := hS; have f0 := ((X0.out.below hz).cell 0).trans rfl; have f1 := ((X0.out.below hz).cell 1).trans rfl; have k0 := ((Y0.out.below hz).cell 0).trans rfl; have k1 := ((Y0.out.below hz).cell 1).trans rfl
      go_simp
      first | done | exact rfl
    go_simp
    refine hK _ ?_
    clear hK K
    refine plan_float rfl (fun K hK => ?_)
    apply Exists.intro
    refine ⟨Or.inl ⟨rfl, fun W hS => ?_⟩, ?_⟩
    · have hz : Ext w0 W := hS; have f0 := ((X0.out.below hz).cell 0).trans rfl; have f1 := ((X0.out.below hz).cell 1).trans rfl; have k0 := ((Y0.out.below hz).cell 0).trans rfl; have k1 := ((Y0.out.below hz).cell 1).trans rfl
      go_simp
      first | done | exact rfl
    go_simp
    refine hK _ ?_
    clear hK K
    refine plan_float rfl (fun K hK => ?_)
    apply Exists.intro
    refine ⟨Or.inl ⟨rfl, fun W hS => ?_⟩, ?_⟩
    · have hz : Ext w0 W := hS; have f0 := ((X0.out.below hz).cell 0).trans rfl; have f1 := ((X0.out.below hz).cell 1).trans rfl; have k0 := ((Y0.out.below hz).cell 0).trans rfl; have k1 := ((Y0.out.below hz).cell 1).trans rfl
      go_simp
      first | done | exact rfl
    go_simp
    refine hK _ ?_
    clear hK K
    refine plan_only rfl (fun Q' hQ' => ?_)
    go_wp2_with fail
    refine (icmp_is a.dot.2 b.dot.2 w0.drew).mono ?_
    rintro e w1 ⟨rfl, rfl⟩
    obtain ⟨x1, hx1⟩ : ∃ x1, x1 = Sp.icmp a.dot.2 b.dot.2 := ⟨_, rfl⟩
    rw [← hx1]
    have HX1 := Lib.hid hx1
    clear hx1
    go_wp2
    refine hQ' _ _ (Ext.refl w0).drew ?_
    clear hQ'
    refine plan_only rfl (fun Q' hQ' => ?_)
    go_wp2_with fail
    refine (icmp_is a.dot.1 b.dot.1 w0.drew).mono ?_
    rintro e w1 ⟨rfl, rfl⟩
    obtain ⟨x2, hx2⟩ : ∃ x2, x2 = Sp.icmp a.dot.1 b.dot.1 := ⟨_, rfl⟩
    rw [← hx2]
    have HX2 := Lib.hid hx2
    clear hx2
    go_wp2
    refine hQ' _ _ (Ext.refl w0).drew ?_
    clear hQ'
    refine plan_only rfl (fun Q' hQ' => ?_)
    go_wp2
    refine hQ' _ _ (show Ext w0 _ from Below.alloc (Ext.refl w0).drew (Nat.le_refl _) _) ?_
    clear hQ'
    refine plan_nil ?_
    simp only [List.drop_succ_cons, List.drop_zero]
    go_wp2_with fail
    have E1 := Lib.hid (show Ext w0 (w0.alloc (.cells #[.int .i64 x1, .int .i64 x2] 3)).drew from (Ext.alloc w0 _).drew)
    refine (or2_is x1 x2 w0.heap.size _ (show isBlk (w0.alloc (.cells #[.int .i64 x1, .int .i64 x2] 3)).drew w0.heap.size 3 #[.int .i64 x1, .int .i64 x2] from box_at w0 _ _)).mono ?_
    rintro e w2 ⟨rfl, hb2⟩
    obtain ⟨x3, hx3⟩ : ∃ x3, x3 = if x1 = 0 then x2 else x1 := ⟨_, rfl⟩
    rw [← hx3]
    have W3 := Lib.hid (show Sp.wins a b = decide (0 < x3) by rw [W2.out, Sp.winsK_cmp, hx3, HX1.out, HX2.out])
    clear hx3 HX1 HX2 W2
    have E2 := Lib.hid (E0.out.trans (E1.out.trans hb2))
    clear hb2
    go_wp2
    refine ⟨rfl, ?_⟩
    go_wp2
    go_ret
    exact ⟨ret_bool W3.out.symm, E2.out⟩
set_option maxRecDepth 100000 in
set_option maxHeartbeats 4000000 in
theorem winner_is (l : List Sp.Ver) (A : Option Addr) (cap : Nat) (w : World) (h : Vers w A l) (hl : l.length ≤ 1000) :
    Calls Tryz.prog 243 #[.slice A l.length cap] w fun e w' => ∃ A' c', e = .returned (.tuple #[.agg (verC A' c' ((Sp.winner l).getD Sp.verZ)), .bool (decide (Sp.live l ≠ []))]) ∧ Ext w w' := by
  have LC := Lib.hid fun W (e : Ext w W) => live_calls l A cap W (h.ext e) (by omega)
  have QL : (Sp.live l).length ≤ l.length := List.length_filter_le _ _
  have WN := Lib.hid (show (Sp.winner l).getD Sp.verZ = match Sp.live l with | [] => Sp.verZ | x :: r => Sp.best x r by unfold Sp.winner; cases Sp.live l <;> rfl)
  obtain ⟨zz, hzz⟩ : ∃ zz, zz = (Sp.winner l).getD Sp.verZ := ⟨_, rfl⟩
  rw [← hzz] at WN ⊢
  clear hzz
  obtain ⟨q, hq⟩ : ∃ q, q = Sp.live l := ⟨_, rfl⟩
  rw [← hq] at LC QL WN ⊢
  clear hq h
  go_enter Tryz.func243, Tryz.ntmps243
  go_upto_region 1 with fail
  obtain ⟨w0, hw0⟩ : ∃ w0, w0 = w.alloc (.cells #[.int .i64 0, .int .i64 0, .slice none 0 0, .bool false, .string ⟨#[]⟩] 71) := ⟨_, rfl⟩
  have X0 := Lib.hid (show isBlk w0 w.heap.size 71 #[.int .i64 0, .int .i64 0, .slice none 0 0, .bool false, .string ⟨#[]⟩] by rw [hw0]; exact box_at w _ _)
  have E0 := Lib.hid (show Ext w w0 by rw [hw0]; exact Ext.alloc _ _)
  rw [← hw0]
  clear hw0
  go_wp2_with fail
  refine (LC.out w0 E0.out).mono ?_
  rintro e w2 ⟨v2, rfl, hO2, hb2⟩
  obtain ⟨A2, c2, rfl, hV2⟩ := hO2.read
  have V2 := Lib.hid hV2
  have hcap : q.length ≤ c2 := by
    obtain ⟨m, _, h2, _⟩ := hO2
    rcases h2.2 with ⟨h, _⟩ | ⟨g, cap', cur, h, _, _, hn, _⟩
    · simp only [Value.slice.injEq] at h; omega
    · simp only [Value.slice.injEq] at h; omega
  have X2 := Lib.hid (X0.out.below hb2)
  have E2 := Lib.hid (E0.out.trans hb2)
  clear hO2 hV2 hb2 X0 LC
  by_cases h0 : q = []
  · subst h0
    have g0 := X2.out.frozen 0
    have g1 := X2.out.frozen 1
    have g2 := X2.out.frozen 2
    have g3 := X2.out.frozen 3
    have g4 := X2.out.frozen 4
    have e0 := (X2.out.cell 0).trans rfl
    have e1 := (X2.out.cell 1).trans rfl
    have e2 := (X2.out.cell 2).trans rfl
    have e3 := (X2.out.cell 3).trans rfl
    have e4 := (X2.out.cell 4).trans rfl
    rw [List.length_nil]
    go_wp2
    refine bodyPost_ret (results_cell_pair rfl _ _ w.heap.size 71 (verL none 0 ⟨(0, 0), [], false, []⟩) _ rfl (((((X2.out.put 0 _ rfl).put 1 _ rfl).put 2 _ rfl).put 3 _ rfl).put 4 _ rfl) Tryz.underlying71 rfl (by kernel_rfl)) rfl ?_
    rw [WN.out]
    exact ⟨none, 0, rfl, ((((E2.out.setCell (p := ⟨w.heap.size, 0, none⟩) (by simp) _).setCell (p := ⟨w.heap.size, 1, none⟩) (by simp) _).setCell (p := ⟨w.heap.size, 2, none⟩) (by simp) _).setCell (p := ⟨w.heap.size, 3, none⟩) (by simp) _).setCell (p := ⟨w.heap.size, 4, none⟩) (by simp) _⟩
  · obtain ⟨x0, r0, hqr⟩ : ∃ x0 r0, q = x0 :: r0 := by
      cases q with
      | nil => exact absurd rfl h0
      | cons x0 r0 => exact ⟨x0, r0, rfl⟩
    have BW := Lib.hid (show zz = Sp.best x0 r0 by rw [WN.out, hqr])
    clear WN
    obtain ⟨n, hn⟩ : ∃ n, q.length = n + 1 := ⟨q.length - 1, by have := List.length_pos_iff.2 h0; omega⟩
    have rn : r0.length = n := by rw [hqr] at hn; simpa using hn
    have RN := Lib.hid rn
    have Q0 := Lib.hid (show ∀ h : 0 < q.length, q[0] = x0 from fun h => by simp only [hqr, List.getElem_cons_zero])
    have QS := Lib.hid (show ∀ k (h : k + 1 < q.length) (h' : k < r0.length), q[k + 1] = r0[k] from fun k h h' => by simp only [hqr, List.getElem_cons_succ])
    clear hqr rn
    have dq := Lib.hid (show decide (q ≠ []) = true from decide_eq_true h0)
    obtain ⟨eb, eo, rfl, hc⟩ := V2.out.at (by omega)
    obtain ⟨A3, c3, ⟨c0, c1, c2x, c3x, c4⟩, pst⟩ := hc 0 (by omega)
    simp only [Nat.zero_mul, Nat.add_zero] at c0 c1 c2x c3x c4
    have HC := Lib.hid (show ∀ k, (hk : k < n) → ∃ A4 c4 x, x = r0[k]'(by have := RN.out; omega) ∧ w2.cell? ⟨eb, eo + 5 + k * 5, none⟩ = some (.int .i64 x.dot.1) ∧ w2.cell? ⟨eb, eo + 5 + k * 5 + 1, none⟩ = some (.int .i64 x.dot.2) ∧ w2.cell? ⟨eb, eo + 5 + k * 5 + 2, none⟩ = some (.slice A4 (x : Sp.Ver).past.length c4) ∧ w2.cell? ⟨eb, eo + 5 + k * 5 + 3, none⟩ = some (.bool x.dead) ∧ w2.cell? ⟨eb, eo + 5 + k * 5 + 4, none⟩ = some (.string (strOf x.data)) from fun k hk => by
      obtain ⟨A4, c4, ⟨d0, d1, d2, d3, d4⟩, _⟩ := hc (k + 1) (by omega)
      rw [show eo + (k + 1) * 5 = eo + 5 + k * 5 by omega] at d0 d1 d2 d3 d4
      rw [QS.out k (by omega) (by have := RN.out; omega)] at d0 d1 d2 d3 d4
      exact ⟨A4, c4, _, rfl, d0, d1, d2, d3, d4⟩)
    rw [Q0.out (by omega)] at c0 c1 c2x c3x c4
    rw [hn]
    have n1 : ((n : Int) + 1 == 0) = false := by rw [beq_eq_false_iff_ne]; omega
    have nb : (n : Int) ≤ 1000 := by omega
    have w9 : IntKind.i64.wrap ((n : Int) + 1 - 1) = (n : Int) := by rw [IntWalk.i64_in _ (by omega)]; omega
    have hcap2 := Lib.hid (show n + 1 ≤ c2 by omega)
    clear pst hc h0 hn QL hcap QS Q0
    go_upto_region 5 with fail
    obtain ⟨w3, hw3⟩ : ∃ w3, w3 = w2.alloc (.cells (verL A3 c3 x0) 71) := ⟨_, rfl⟩
    have X3 := Lib.hid (show isBlk w3 w2.heap.size 71 (verL A3 c3 x0) by rw [hw3]; exact box_at w2 _ _)
    have E3 := Lib.hid (show Ext w2 w3 by rw [hw3]; exact Ext.alloc _ _)
    rw [← hw3]
    have k1 : (1 : Int) ≤ (n : Int) + 1 := by omega
    have k2 : ((n : Int) + 1).toNat = n + 1 := by omega
    have k3 : n + 1 ≤ c2 := hcap2.out
    clear hw3 c0 c1 c2x c3x c4
    go_wp2
    · obtain rfl : n = 0 := by omega
      clear k3 nb n1 w9 k1 k2
      go_loopw [20] (fun v20 wr => ∃ k : Nat, k ≤ 0 ∧ v20 = .int .i64 k ∧ (∃ A4 c4, isBlk wr w2.heap.size 71 (verL A4 c4 (Sp.best x0 (r0.take k)))) ∧ Ext w2 wr) (fun v20 _ => 0 - (intOf v20).toNat)
      case atStart => exact ⟨0, Nat.zero_le _, rfl, ⟨_, _, X3.out⟩, E3.out⟩
      case round =>
        obtain ⟨k, hk, rfl, hx, hb⟩ := hrel
        obtain rfl : k = 0 := by omega
        obtain ⟨A5, c5, hx5⟩ := hx
        have BF := Lib.hid (show zz = Sp.best x0 (r0.take 0) by rw [BW.out, List.take_of_length_le (by have := RN.out; omega)])
        obtain ⟨x5, hx5e⟩ : ∃ x5, x5 = Sp.best x0 (r0.take 0) := ⟨_, rfl⟩
        rw [← hx5e] at hx5 BF
        clear hx5e
        have Y5 := Lib.hid hx5
        have Z5 := Lib.hid (X2.out.below hb)
        have E5 := Lib.hid (E2.out.trans hb)
        have y0 := (Y5.out.cell 0).trans rfl
        have y1 := (Y5.out.cell 1).trans rfl
        have y2 := (Y5.out.cell 2).trans rfl
        have y3 := (Y5.out.cell 3).trans rfl
        have y4 := (Y5.out.cell 4).trans rfl
        have z0 := (Z5.out.cell 0).trans rfl
        have z1 := (Z5.out.cell 1).trans rfl
        have z2 := (Z5.out.cell 2).trans rfl
        have z3 := (Z5.out.cell 3).trans rfl
        have z4 := (Z5.out.cell 4).trans rfl
        have g0 := Z5.out.frozen 0
        have g1 := Z5.out.frozen 1
        have g2 := Z5.out.frozen 2
        have g3 := Z5.out.frozen 3
        have g4 := Z5.out.frozen 4
        clear hx5 hb
        go_wp2
        refine bodyPost_ret (results_cell_pair rfl _ _ w.heap.size 71 (verL A5 c5 x5) _ rfl (((((Z5.out.put 0 _ rfl).put 1 _ rfl).put 2 _ rfl).put 3 _ rfl).put 4 _ rfl) Tryz.underlying71 rfl (by kernel_rfl)) rfl ?_
        refine ⟨A5, c5, ?_, ((((E5.out.setCell (p := ⟨w.heap.size, 0, none⟩) (by simp) _).setCell (p := ⟨w.heap.size, 1, none⟩) (by simp) _).setCell (p := ⟨w.heap.size, 2, none⟩) (by simp) _).setCell (p := ⟨w.heap.size, 3, none⟩) (by simp) _).setCell (p := ⟨w.heap.size, 4, none⟩) (by simp) _⟩
        rw [dq.out, BF.out]
        rfl
    · clear k3 n1 w9 k1 k2
      go_loopw [20] (fun v20 wr => ∃ k : Nat, k ≤ n ∧ v20 = .int .i64 k ∧ (∃ A4 c4, isBlk wr w2.heap.size 71 (verL A4 c4 (Sp.best x0 (r0.take k)))) ∧ Ext w2 wr) (fun v20 _ => n - (intOf v20).toNat)
      case atStart => exact ⟨0, Nat.zero_le _, rfl, ⟨_, _, X3.out⟩, E3.out⟩
      case round =>
        obtain ⟨k, hk, rfl, hx, hb⟩ := hrel
        by_cases hlt : k < n
        · obtain ⟨A5, c5, hx5⟩ := hx
          have BT := Lib.hid (Sp.best_take x0 r0 k (by have := RN.out; omega))
          obtain ⟨x5, hx5e⟩ : ∃ x5, x5 = Sp.best x0 (r0.take k) := ⟨_, rfl⟩
          rw [← hx5e] at hx5 BT
          clear hx5e
          have Y5 := Lib.hid hx5
          have HB := Lib.hid hb
          obtain ⟨A6, c6, x6, hx6, d0, d1, d2, d3, d4⟩ := HC.out k hlt
          rw [← hx6] at BT
          clear hx6
          have d0 := hb.cell d0
          have d1 := hb.cell d1
          have d2 := hb.cell d2
          have d3 := hb.cell d3
          have d4 := hb.cell d4
          have kb : (k : Int) < (n : Int) := by omega
          clear hx5 hb
          go_upto_region 8 with fail
          obtain ⟨w6, hw6⟩ : ∃ w6, w6 = wr.alloc (.cells (verL A6 c6 x6) 71) := ⟨_, rfl⟩
          have X6 := Lib.hid (show isBlk w6 wr.heap.size 71 (verL A6 c6 x6) by rw [hw6]; exact box_at wr _ _)
          have E6 := Lib.hid (show Ext wr w6 by rw [hw6]; exact Ext.alloc _ _)
          have Y6 := Lib.hid (Y5.out.below E6.out)
          rw [← hw6]
          clear hw6 d0 d1 d2 d3 d4
          have f0 := (X6.out.cell 0).trans rfl
          have f1 := (X6.out.cell 1).trans rfl
          have f2 := (X6.out.cell 2).trans rfl
          have f3 := (X6.out.cell 3).trans rfl
          have f4 := (X6.out.cell 4).trans rfl
          have y0 := (Y6.out.cell 0).trans rfl
          have y1 := (Y6.out.cell 1).trans rfl
          have y2 := (Y6.out.cell 2).trans rfl
          have y3 := (Y6.out.cell 3).trans rfl
          have y4 := (Y6.out.cell 4).trans rfl
          go_wp2_with fail
          refine (wins_is x6 x5 A6 A5 c6 c5 w6).mono ?_
          rintro e w7 ⟨rfl, hb7⟩
          obtain ⟨r, hr⟩ : ∃ r, r = Sp.wins x6 x5 := ⟨_, rfl⟩
          rw [← hr] at BT ⊢
          clear hr
          have X7 := Lib.hid (X6.out.below hb7)
          have Y7 := Lib.hid (Y6.out.below hb7)
          have E7 := Lib.hid (HB.out.trans (E6.out.trans hb7))
          clear hb7 f0 f1 f2 f3 f4 y0 y1 y2 y3 y4
          have f0 := (X7.out.cell 0).trans rfl
          have f1 := (X7.out.cell 1).trans rfl
          have f2 := (X7.out.cell 2).trans rfl
          have f3 := (X7.out.cell 3).trans rfl
          have f4 := (X7.out.cell 4).trans rfl
          have y0 := (Y7.out.cell 0).trans rfl
          have y1 := (Y7.out.cell 1).trans rfl
          have y2 := (Y7.out.cell 2).trans rfl
          have y3 := (Y7.out.cell 3).trans rfl
          have y4 := (Y7.out.cell 4).trans rfl
          have g0 := Y7.out.frozen 0
          have g1 := Y7.out.frozen 1
          have g2 := Y7.out.frozen 2
          have g3 := Y7.out.frozen 3
          have g4 := Y7.out.frozen 4
          cases r with
          | false =>
            have BT2 := Lib.hid (show Sp.best x0 (r0.take (k + 1)) = x5 by rw [BT.out]; rfl)
            clear BT
            go_wp2
            go_roundw
            case rel => exact ⟨k + 1, by omega, by go_num, ⟨_, _, by rw [BT2.out]; exact Y7.out⟩, E7.out⟩
            case measure => simp [intOf]; omega
          | true =>
            have BT2 := Lib.hid (show Sp.best x0 (r0.take (k + 1)) = x6 by rw [BT.out]; rfl)
            clear BT
            go_wp2
            go_roundw
            case rel => exact ⟨k + 1, by omega, by go_num, ⟨A6, c6, by rw [BT2.out]; exact ((((Y7.out.put 0 _ rfl).put 1 _ rfl).put 2 _ rfl).put 3 _ rfl).put 4 _ rfl⟩, ((((E7.out.setCell (p := ⟨w2.heap.size, 0, none⟩) (by simp) _).setCell (p := ⟨w2.heap.size, 1, none⟩) (by simp) _).setCell (p := ⟨w2.heap.size, 2, none⟩) (by simp) _).setCell (p := ⟨w2.heap.size, 3, none⟩) (by simp) _).setCell (p := ⟨w2.heap.size, 4, none⟩) (by simp) _⟩
            case measure => simp [intOf]; omega
        · obtain rfl : k = n := by omega
          obtain ⟨A5, c5, hx5⟩ := hx
          have BF := Lib.hid (show zz = Sp.best x0 (r0.take k) by rw [BW.out, List.take_of_length_le (by have := RN.out; omega)])
          obtain ⟨x5, hx5e⟩ : ∃ x5, x5 = Sp.best x0 (r0.take k) := ⟨_, rfl⟩
          rw [← hx5e] at hx5 BF
          clear hx5e
          have Y5 := Lib.hid hx5
          have Z5 := Lib.hid (X2.out.below hb)
          have E5 := Lib.hid (E2.out.trans hb)
          have y0 := (Y5.out.cell 0).trans rfl
          have y1 := (Y5.out.cell 1).trans rfl
          have y2 := (Y5.out.cell 2).trans rfl
          have y3 := (Y5.out.cell 3).trans rfl
          have y4 := (Y5.out.cell 4).trans rfl
          have z0 := (Z5.out.cell 0).trans rfl
          have z1 := (Z5.out.cell 1).trans rfl
          have z2 := (Z5.out.cell 2).trans rfl
          have z3 := (Z5.out.cell 3).trans rfl
          have z4 := (Z5.out.cell 4).trans rfl
          have g0 := Z5.out.frozen 0
          have g1 := Z5.out.frozen 1
          have g2 := Z5.out.frozen 2
          have g3 := Z5.out.frozen 3
          have g4 := Z5.out.frozen 4
          clear hx5 hb
          go_wp2
          refine bodyPost_ret (results_cell_pair rfl _ _ w.heap.size 71 (verL A5 c5 x5) _ rfl (((((Z5.out.put 0 _ rfl).put 1 _ rfl).put 2 _ rfl).put 3 _ rfl).put 4 _ rfl) Tryz.underlying71 rfl (by kernel_rfl)) rfl ?_
          refine ⟨A5, c5, ?_, ((((E5.out.setCell (p := ⟨w.heap.size, 0, none⟩) (by simp) _).setCell (p := ⟨w.heap.size, 1, none⟩) (by simp) _).setCell (p := ⟨w.heap.size, 2, none⟩) (by simp) _).setCell (p := ⟨w.heap.size, 3, none⟩) (by simp) _).setCell (p := ⟨w.heap.size, 4, none⟩) (by simp) _⟩
          rw [dq.out, BF.out]
          rfl
end Go.Proofs.YtmlfnidckfeebaaGreatDoor
namespace Go.Proofs.YtmlfnidckfeebaaGreatDoor
open Go.RowKit Go.Shelf
attribute [local go_sem] yUpon strOf_toList
namespace Sp
end Sp
def LiveAt (w wr : World) (x : Option Addr × Nat × Sp.DE) : Prop := ∃ mv : List (Option Addr × Nat × Sp.Ver), mv.map (·.2.2) = x.2.2.2 ∧ wr.ownsRow 0 71 5 (.slice x.1 x.2.2.2.length x.2.1) x.2.2.2.length (versC mv) ∧ ∀ y ∈ mv, Past w y.1 y.2.2
theorem LiveAt.keep {T : TypeId → Prop} (hT : ¬ T 71) {B : Nat} {w wr w' : World} {x : Option Addr × Nat × Sp.DE} (h : LiveAt w wr x) (k : KB T B wr w') : LiveAt w w' x := by
  obtain ⟨mv, h1, h2, h3⟩ := h
  exact ⟨mv, h1, own_keep hT h2 k, h3⟩
end Go.Proofs.YtmlfnidckfeebaaGreatDoor
namespace Go.Proofs.YtmlfnidckfeebaaGreatDoor
open Go.RowKit Go.Shelf
theorem dir_len {d : Sp.Bs} (h : Sp.Dir d) : d.length ≤ 51 := by
  rcases h with rfl | h
  · exact Nat.zero_le _
  · exact (Sp.check_parts h).2.1
end Go.Proofs.YtmlfnidckfeebaaGreatDoor
namespace Go.Proofs.YtmlfnidckfeebaaGreatDoor
open Go.RowKit
section
variable {P : Program} {ops : Array Oper} {T : World → Prop}
theorem floatT_no' {a : Act} {o : Oper} {K : Act → Prop} (hw : Region.wanted o (yielded ops a.tmps) = false) (h : K (a.put o.dst undef)) : ∃ v, YieldsT P ops T o v a ∧ K (a.put o.dst v) := ⟨undef, .inr ⟨hw, rfl⟩, h⟩
end
namespace Sp
theorem findT_small : ∀ (d : List Bs) (t s : T), findT t d = some s → sizeT s ≤ sizeT t
  | [], t, s, e => by cases e; exact Nat.le_refl _
  | n :: d, t, s, e => by
    rw [findT] at e
    cases hk : kid t.kids n with
    | none => rw [hk] at e; cases e
    | some u =>
      rw [hk] at e
      have h1 := kid_size t.kids n u hk
      have h2 := sizeT_n0 t
      have h3 := findT_small d u s e
      omega
end Sp
end Go.Proofs.YtmlfnidckfeebaaGreatDoor
namespace Go.Proofs.YtmlfnidckfeebaaGreatDoor
open Go.RowKit
namespace Sp
theorem told_eq {o : Option T} {m : List DE} (he : toP m = entriesO o) : told o = m := by
  unfold told
  rw [← he]
  unfold toP
  rw [List.map_map]
  conv => rhs; rw [← List.map_id m]
  refine List.map_congr_left fun e _ => ?_
  show (joinP (split e.1), e.2) = e
  rw [join_split]
theorem told_short {o : Option T} {m : List DE} (he : toP m = entriesO o) (hm : GoodM m) : ∀ x ∈ entriesO o, x.1.length ≤ 60 := fun x hx => by
  rw [← he] at hx
  obtain ⟨e, h1, rfl⟩ := List.mem_map.1 hx
  exact Nat.le_trans (check_parts (hm.1 e h1)).2.2.1 (by decide)
theorem told_leaf {o : Option T} {m : List DE} (he : toP m = entriesO o) (ho : GoodO o) : ∀ e ∈ m, e.2.length ≤ 1000000 := fun e h => by
  have : (split e.1, e.2) ∈ entriesO o := by rw [← he]; exact List.mem_map_of_mem h
  exact (told_fit ho _ this).1
end Sp
end Go.Proofs.YtmlfnidckfeebaaGreatDoor
