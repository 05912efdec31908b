/- Siblings: which of two wins, and the winner. Walks: what is seen of entries: the document's. Walks: the document's node of a directory. -/
import Derived.Test.YtmlfnidckfeebaaGreatDoorRF020
namespace Go.Proofs.YtmlfnidckfeebaaGreatDoor
open Go.RowKit Go.Shelf
attribute [local go_sem] yUpon strOf_toList
namespace Sp
def icmp (x y : Int) : Int := if x < y then -1 else if y < x then 1 else 0
def verZ : Ver := ⟨(0, 0), [], false, []⟩
theorem winsK_cmp (a b : Ver) : winsK a b = decide (0 < (if icmp a.dot.2 b.dot.2 = 0 then icmp a.dot.1 b.dot.1 else icmp a.dot.2 b.dot.2)) := by
  rw [Bool.eq_iff_iff, winsK_iff, decide_eq_true_eq]
  unfold icmp
  by_cases h1 : a.dot.2 < b.dot.2
  · simp [h1]
    omega
  · by_cases h2 : b.dot.2 < a.dot.2
    · simp [h1, h2]
    · by_cases h3 : a.dot.1 < b.dot.1
      · simp [h1, h2, h3]
        omega
      · by_cases h4 : b.dot.1 < a.dot.1
        · simp [h1, h2, h3, h4]
          omega
        · simp [h1, h2, h3, h4]
theorem best_take (x : Ver) : ∀ (r : List Ver) (k : Nat) (h : k < r.length), best x (r.take (k + 1)) = if wins r[k] (best x (r.take k)) = true then r[k] else best x (r.take k) := by
  intro r
  induction r generalizing x with
  | nil => intro k h; simp at h
  | cons v s ih =>
    intro k h
    cases k with
    | zero => rfl
    | succ k => exact ih _ k (by simpa using h)
end Sp
theorem icmp_is (x y : Int) (w : World) : Calls Tryz.prog 95 #[.int .i64 x, .int .i64 y] w fun e w' => e = .returned (.int .i64 (Sp.icmp x y)) ∧ w = w' := by
  go_enter Tryz.func95, Tryz.ntmps95
  go_wp2_with fail
  refine (isnan_int x w).mono ?_
  rintro e w1 ⟨rfl, rfl⟩
  go_wp2_with fail
  refine (isnan_int y w).mono ?_
  rintro e w1 ⟨rfl, rfl⟩
  by_cases h1 : x < y
  · go_wp2
    go_ret
    exact ⟨ret_int (by unfold Sp.icmp; split <;> (try split) <;> omega), rfl⟩
  · by_cases h2 : y < x
    · go_wp2
      go_ret
      exact ⟨ret_int (by unfold Sp.icmp; split <;> (try split) <;> omega), rfl⟩
    · go_wp2
      go_ret
      exact ⟨ret_int (by unfold Sp.icmp; split <;> (try split) <;> omega), rfl⟩
set_option maxRecDepth 100000 in
set_option maxHeartbeats 2000000 in
theorem or2_is (x y : Int) (g : Nat) (w : World) (h : isBlk w g 3 #[.int .i64 x, .int .i64 y]) : Calls Tryz.prog 94 #[.slice (some ⟨g, 0, none⟩) 2 2] w fun e w' => e = .returned (.int .i64 (if x = 0 then y else x)) ∧ Ext w w' := by
  have f0 := (h.cell 0).trans rfl
  have f1 := (h.cell 1).trans rfl
  have z0 : ((0 : Int) == 0) = true := rfl
  obtain ⟨rr, hrr⟩ : ∃ rr, rr = if x = 0 then y else x := ⟨_, rfl⟩
  rw [← hrr]
  have RR := Lib.hid hrr
  clear hrr
  go_enter Tryz.func94, Tryz.ntmps94
  go_wp2
  go_loopw [8] (fun v8 wr => ∃ k : Nat, k ≤ 2 ∧ v8 = .int .i64 k ∧ w = wr ∧ (1 ≤ k → x = 0) ∧ (2 ≤ k → y = 0)) (fun v8 _ => 2 - (intOf v8).toNat)
  case atStart => exact ⟨0, by decide, rfl, rfl, by omega, by omega⟩
  case round =>
    obtain ⟨k, hk, rfl, rfl, hx, hy⟩ := hrel
    have h3 : k = 0 ∨ k = 1 ∨ k = 2 := by omega
    rcases h3 with rfl | rfl | rfl
    · clear hx hy
      by_cases hx0 : x = 0
      · subst hx0
        go_wp2
        go_roundw
        case rel => exact ⟨1, by decide, rfl, trivial, (by first | exact fun _ => rfl | exact fun _ => trivial | simp), by omega⟩
        case measure => decide
      · have q1 : (x != 0) = true := by simpa using hx0
        have q2 : (x == 0) = false := by simpa using hx0
        go_wp2
        go_ret
        exact ⟨ret_int (by rw [RR.out, if_neg hx0]), Ext.refl _⟩
    · have hx0 := hx (by decide)
      clear hx hy
      by_cases hy0 : y = 0
      · subst hy0
        go_wp2
        go_roundw
        case rel => exact ⟨2, by decide, rfl, trivial, fun _ => hx0, (by first | exact fun _ => rfl | exact fun _ => trivial | simp)⟩
        case measure => decide
      · have q1 : (y != 0) = true := by simpa using hy0
        have q2 : (y == 0) = false := by simpa using hy0
        go_wp2
        go_ret
        exact ⟨ret_int (by rw [RR.out, if_pos hx0]), Ext.refl _⟩
    · have hx0 := hx (by decide)
      have hy0 := hy (by decide)
      clear hx hy
      go_wp2
      go_ret
      exact ⟨ret_int (by rw [RR.out, if_pos hx0]; first | rfl | exact hy0.symm | simp [hy0]), Ext.refl _⟩
set_option maxRecDepth 100000 in
set_option maxHeartbeats 4000000 in
theorem wins_is (a b : Sp.Ver) (A B : Option Addr) (c d : Nat) (w : World) : Calls Tryz.prog 276 #[.agg (verC A c a), .agg (verC B d b)] w fun e w' => e = .returned (.bool (Sp.wins a b)) ∧ Ext w w' := by
  show Calls Tryz.prog 276 #[.agg #[.int .i64 a.dot.1, .int .i64 a.dot.2, .slice A a.past.length c, .bool a.dead, .string (strOf a.data)], .agg #[.int .i64 b.dot.1, .int .i64 b.dot.2, .slice B b.past.length d, .bool b.dead, .string (strOf b.data)]] w _
  go_enter Tryz.func276, Tryz.ntmps276
  go_upto_region 1 with fail
  obtain ⟨w0, hw0⟩ : ∃ w0, w0 = (w.alloc (.cells #[.int .i64 a.dot.1, .int .i64 a.dot.2, .slice A a.past.length c, .bool a.dead, .string (strOf a.data)] 71)).alloc (.cells #[.int .i64 b.dot.1, .int .i64 b.dot.2, .slice B b.past.length d, .bool b.dead, .string (strOf b.data)] 71) := ⟨_, rfl⟩
  have X0 := Lib.hid (show isBlk w0 w.heap.size 71 #[.int .i64 a.dot.1, .int .i64 a.dot.2, .slice A a.past.length c, .bool a.dead, .string (strOf a.data)] by rw [hw0]; exact (box_at w _ _).alloc _)
  have Y0 := Lib.hid (show isBlk w0 (w.heap.size + 1) 71 #[.int .i64 b.dot.1, .int .i64 b.dot.2, .slice B b.past.length d, .bool b.dead, .string (strOf b.data)] by
    rw [hw0]
    have := box_at (w.alloc (.cells #[.int .i64 a.dot.1, .int .i64 a.dot.2, .slice A a.past.length c, .bool a.dead, .string (strOf a.data)] 71)) #[.int .i64 b.dot.1, .int .i64 b.dot.2, .slice B b.past.length d, .bool b.dead, .string (strOf b.data)] 71
    rwa [World.size_alloc] at this)
  have E0 := Lib.hid (show Ext w w0 by rw [hw0]; exact Below.alloc (Ext.alloc _ _) (by simp) _)
  rw [← hw0]
  clear hw0
  have f3 := (X0.out.cell 3).trans rfl
  have k3 := (Y0.out.cell 3).trans rfl
  obtain ⟨p, hp⟩ : ∃ p, p = a.dead := ⟨_, rfl⟩
  obtain ⟨q, hq⟩ : ∃ q, q = b.dead := ⟨_, rfl⟩
  have WS := Lib.hid (show Sp.wins a b = if p = q then Sp.winsK a b else q by rw [hp, hq]; rfl)
  rw [← hp] at f3
  rw [← hq] at k3
  clear hp hq
  by_cases hpq : p = q
  case neg =>
    have t1 : (p == q) = false := by simpa using hpq
    have W2 := Lib.hid (show Sp.wins a b = q by rw [WS.out, if_neg hpq])
    clear hpq WS
    go_wp2
    go_ret
    exact ⟨ret_bool W2.out.symm, E0.out⟩
  case pos =>
    have t1 : (p == q) = true := by simpa using hpq
    have W2 := Lib.hid (show Sp.wins a b = Sp.winsK a b by rw [WS.out, if_pos hpq])
    clear hpq WS
    go_wp2_with fail
    clear f3 k3 t1
    refine wp_region_planT (fun W => Ext w0 W) 15 [(true, 0), (true, 1), (true, 2), (true, 3), (true, 4), (true, 5), (true, 7), (true, 8), (true, 9), (true, 10), (true, 11), (true, 12), (false, 6), (false, 13), (false, 14)] (by kernel_rfl) (by kernel_rfl) (Ext.refl w0).drew ?_
    refine plan_float rfl (fun K hK => ?_)
    apply Exists.intro
    refine ⟨Or.inl ⟨rfl, fun W hS => ?_⟩, ?_⟩
    · have hz : Ext w0 W := hS; have f0 := ((X0.out.below hz).cell 0).trans rfl; have f1 := ((X0.out.below hz).cell 1).trans rfl; have k0 := ((Y0.out.below hz).cell 0).trans rfl; have k1 := ((Y0.out.below hz).cell 1).trans rfl
      go_simp
      first | done | exact rfl
    go_simp
    refine hK _ ?_
    clear hK K
    refine plan_float rfl (fun K hK => ?_)
    apply Exists.intro
    refine ⟨Or.inl ⟨rfl, fun W hS => ?_⟩, ?_⟩
    · have hz : Ext w0 W := hS; have f0 := ((X0.out.below hz).cell 0).trans rfl; have f1 := ((X0.out.below hz).cell 1).trans rfl; have k0 := ((Y0.out.below hz).cell 0).trans rfl; have k1 := ((Y0.out.below hz).cell 1).trans rfl
      go_simp
      first | done | exact rfl
    go_simp
    refine hK _ ?_
    clear hK K
    refine plan_float rfl (fun K hK => ?_)
    apply Exists.intro
    refine ⟨Or.inl ⟨rfl, fun W hS => ?_⟩, ?_⟩
    · have hz : Ext w0 W := hS; have f0 := ((X0.out.below hz).cell 0).trans rfl; have f1 := ((X0.out.below hz).cell 1).trans rfl; have k0 := ((Y0.out.below hz).cell 0).trans rfl; have k1 := ((Y0.out.below hz).cell 1).trans rfl
      go_simp
      first | done | exact rfl
    go_simp
    refine hK _ ?_
    clear hK K
    refine plan_float rfl (fun K hK => ?_)
    apply Exists.intro
    refine ⟨Or.inl ⟨rfl, fun W hS => ?_⟩, ?_⟩
    · have hz : Ext w0 W := hS; have f0 := ((X0.out.below hz).cell 0).trans rfl; have f1 := ((X0.out.below hz).cell 1).trans rfl; have k0 := ((Y0.out.below hz).cell 0).trans rfl; have k1 := ((Y0.out.below hz).cell 1).trans rfl
      go_simp
      first | done | exact rfl
    go_simp
    refine hK _ ?_
    clear hK K
    refine plan_float rfl (fun K hK => ?_)
    apply Exists.intro
    refine ⟨Or.inl ⟨rfl, fun W hS => ?_⟩, ?_⟩
    · have hz : Ext w0 W := hS; have f0 := ((X0.out.below hz).cell 0).trans rfl; have f1 := ((X0.out.below hz).cell 1).trans rfl; have k0 := ((Y0.out.below hz).cell 0).trans rfl; have k1 := ((Y0.out.below hz).cell 1).trans rfl
      go_simp
      first | done | exact rfl
    go_simp
    refine hK _ ?_
    clear hK K
    refine plan_float rfl (fun K hK => ?_)
    apply Exists.intro
    refine ⟨Or.inl ⟨rfl, fun W hS => ?_⟩, ?_⟩
    · have hz : Ext w0 W := hS; have f0 := ((X0.out.below hz).cell 0).trans rfl; have f1 := ((X0.out.below hz).cell 1).trans rfl; have k0 := ((Y0.out.below hz).cell 0).trans rfl; have k1 := ((Y0.out.below hz).cell 1).trans rfl
      go_simp
      first | done | exact rfl
    go_simp
    refine hK _ ?_
    clear hK K
    refine plan_float rfl (fun K hK => ?_)
    apply Exists.intro
    refine ⟨Or.inl ⟨rfl, fun W hS => ?_⟩, ?_⟩
    · have hz : Ext w0 W := hS; have f0 := ((X0.out.below hz).cell 0).trans rfl; have f1 := ((X0.out.below hz).cell 1).trans rfl; have k0 := ((Y0.out.below hz).cell 0).trans rfl; have k1 := ((Y0.out.below hz).cell 1).trans rfl
      go_simp
      first | done | exact rfl
    go_simp
    refine hK _ ?_
    clear hK K
    refine plan_float rfl (fun K hK => ?_)
    apply Exists.intro
    refine ⟨Or.inl ⟨rfl, fun W hS => ?_⟩, ?_⟩
    · have hz : Ext w0 W := hS; have f0 := ((X0.out.below hz).cell 0).trans rfl; have f1 := ((X0.out.below hz).cell 1).trans rfl; have k0 := ((Y0.out.below hz).cell 0).trans rfl; have k1 := ((Y0.out.below hz).cell 1).trans rfl
      go_simp
      first | done | exact rfl
    go_simp
    refine hK _ ?_
    clear hK K
    refine plan_float rfl (fun K hK => ?_)
    apply Exists.intro
    refine ⟨Or.inl ⟨rfl, fun W hS => ?_⟩, ?_⟩
    · have hz : Ext w0 W := hS; have f0 := ((X0.out.below hz).cell 0).trans rfl; have f1 := ((X0.out.below hz).cell 1).trans rfl; have k0 := ((Y0.out.below hz).cell 0).trans rfl; have k1 := ((Y0.out.below hz).cell 1).trans rfl
      go_simp
      first | done | exact rfl
    go_simp
    refine hK _ ?_
    clear hK K
    refine plan_float rfl (fun K hK => ?_)
    apply Exists.intro
    refine ⟨Or.inl ⟨rfl, fun W hS => ?_⟩, ?_⟩
    · have hz : Ext w0 W := hS; have f0 := ((X0.out.below hz).cell 0).trans rfl; have f1 := ((X0.out.below hz).cell 1).trans rfl; have k0 := ((Y0.out.below hz).cell 0).trans rfl; have k1 := ((Y0.out.below hz).cell 1).trans rfl
      go_simp
      first | done | exact rfl
    go_simp
    refine hK _ ?_
    clear hK K
    refine plan_float rfl (fun K hK => ?_)
    apply Exists.intro
    refine ⟨Or.inl ⟨rfl, fun W hS => ?_⟩, ?_⟩
    · have hz : Ext w0 W := hS; have f0 := ((X0.out.below hz).cell 0).trans rfl; have f1 := ((X0.out.below hz).cell 1).trans rfl; have k0 := ((Y0.out.below hz).cell 0).trans rfl; have k1 := ((Y0.out.below hz).cell 1).trans rfl
      go_simp
      first | done | exact rfl
    go_simp
    refine hK _ ?_
    clear hK K
    refine plan_float rfl (fun K hK => ?_)
    apply Exists.intro
    refine ⟨Or.inl ⟨rfl, fun W hS => ?_⟩, ?_⟩
    · have hz : Ext w0 W := hS; have f0 := ((X0.out.below hz).cell 0).trans rfl; have f1 := ((X0.out.below hz).cell 1).trans rfl; have k0 := ((Y0.out.below hz).cell 0).trans rfl; have k1 := ((Y0.out.below hz).cell 1).trans rfl
      go_simp
      first | done | exact rfl
    go_simp
    refine hK _ ?_
    clear hK K
    refine plan_only rfl (fun Q' hQ' => ?_)
    go_wp2_with fail
    refine (icmp_is a.dot.2 b.dot.2 w0.drew).mono ?_
    rintro e w1 ⟨rfl, rfl⟩
    obtain ⟨x1, hx1⟩ : ∃ x1, x1 = Sp.icmp a.dot.2 b.dot.2 := ⟨_, rfl⟩
    rw [← hx1]
    have HX1 := Lib.hid hx1
    clear hx1
    go_wp2
    refine hQ' _ _ (Ext.refl w0).drew ?_
    clear hQ'
    refine plan_only rfl (fun Q' hQ' => ?_)
    go_wp2_with fail
    refine (icmp_is a.dot.1 b.dot.1 w0.drew).mono ?_
    rintro e w1 ⟨rfl, rfl⟩
    obtain ⟨x2, hx2⟩ : ∃ x2, x2 = Sp.icmp a.dot.1 b.dot.1 := ⟨_, rfl⟩
    rw [← hx2]
    have HX2 := Lib.hid hx2
    clear hx2
    go_wp2
    refine hQ' _ _ (Ext.refl w0).drew ?_
    clear hQ'
    refine plan_only rfl (fun Q' hQ' => ?_)
    go_wp2
    refine hQ' _ _ (show Ext w0 _ from Below.alloc (Ext.refl w0).drew (Nat.le_refl _) _) ?_
    clear hQ'
    refine plan_nil ?_
    simp only [List.drop_succ_cons, List.drop_zero]
    go_wp2_with fail
    have E1 := Lib.hid (show Ext w0 (w0.alloc (.cells #[.int .i64 x1, .int .i64 x2] 3)).drew from (Ext.alloc w0 _).drew)
    refine (or2_is x1 x2 w0.heap.size _ (show isBlk (w0.alloc (.cells #[.int .i64 x1, .int .i64 x2] 3)).drew w0.heap.size 3 #[.int .i64 x1, .int .i64 x2] from box_at w0 _ _)).mono ?_
    rintro e w2 ⟨rfl, hb2⟩
    obtain ⟨x3, hx3⟩ : ∃ x3, x3 = if x1 = 0 then x2 else x1 := ⟨_, rfl⟩
    rw [← hx3]
    have W3 := Lib.hid (show Sp.wins a b = decide (0 < x3) by rw [W2.out, Sp.winsK_cmp, hx3, HX1.out, HX2.out])
    clear hx3 HX1 HX2 W2
    have E2 := Lib.hid (E0.out.trans (E1.out.trans hb2))
    clear hb2
    go_wp2
    refine ⟨rfl, ?_⟩
    go_wp2
    go_ret
    exact ⟨ret_bool W3.out.symm, E2.out⟩
set_option maxRecDepth 100000 in
set_option maxHeartbeats 4000000 in
theorem winner_is (l : List Sp.Ver) (A : Option Addr) (cap : Nat) (w : World) (h : Vers w A l) (hl : l.length ≤ 1000) :
    Calls Tryz.prog 243 #[.slice A l.length cap] w fun e w' => ∃ A' c', e = .returned (.tuple #[.agg (verC A' c' ((Sp.winner l).getD Sp.verZ)), .bool (decide (Sp.live l ≠ []))]) ∧ Ext w w' := by
  have LC := Lib.hid fun W (e : Ext w W) => live_calls l A cap W (h.ext e) (by omega)
  have QL : (Sp.live l).length ≤ l.length := List.length_filter_le _ _
  have WN := Lib.hid (show (Sp.winner l).getD Sp.verZ = match Sp.live l with | [] => Sp.verZ | x :: r => Sp.best x r by unfold Sp.winner; cases Sp.live l <;> rfl)
  obtain ⟨zz, hzz⟩ : ∃ zz, zz = (Sp.winner l).getD Sp.verZ := ⟨_, rfl⟩
  rw [← hzz] at WN ⊢
  clear hzz
  obtain ⟨q, hq⟩ : ∃ q, q = Sp.live l := ⟨_, rfl⟩
  rw [← hq] at LC QL WN ⊢
  clear hq h
  go_enter Tryz.func243, Tryz.ntmps243
  go_upto_region 1 with fail
  obtain ⟨w0, hw0⟩ : ∃ w0, w0 = w.alloc (.cells #[.int .i64 0, .int .i64 0, .slice none 0 0, .bool false, .string ⟨#[]⟩] 71) := ⟨_, rfl⟩
  have X0 := Lib.hid (show isBlk w0 w.heap.size 71 #[.int .i64 0, .int .i64 0, .slice none 0 0, .bool false, .string ⟨#[]⟩] by rw [hw0]; exact box_at w _ _)
  have E0 := Lib.hid (show Ext w w0 by rw [hw0]; exact Ext.alloc _ _)
  rw [← hw0]
  clear hw0
  go_wp2_with fail
  refine (LC.out w0 E0.out).mono ?_
  rintro e w2 ⟨v2, rfl, hO2, hb2⟩
  obtain ⟨A2, c2, rfl, hV2⟩ := hO2.read
  have V2 := Lib.hid hV2
  have hcap : q.length ≤ c2 := by
    obtain ⟨m, _, h2, _⟩ := hO2
    rcases h2.2 with ⟨h, _⟩ | ⟨g, cap', cur, h, _, _, hn, _⟩
    · simp only [Value.slice.injEq] at h; omega
    · simp only [Value.slice.injEq] at h; omega
  have X2 := Lib.hid (X0.out.below hb2)
  have E2 := Lib.hid (E0.out.trans hb2)
  clear hO2 hV2 hb2 X0 LC
  by_cases h0 : q = []
  · subst h0
    have g0 := X2.out.frozen 0
    have g1 := X2.out.frozen 1
    have g2 := X2.out.frozen 2
    have g3 := X2.out.frozen 3
    have g4 := X2.out.frozen 4
    have e0 := (X2.out.cell 0).trans rfl
    have e1 := (X2.out.cell 1).trans rfl
    have e2 := (X2.out.cell 2).trans rfl
    have e3 := (X2.out.cell 3).trans rfl
    have e4 := (X2.out.cell 4).trans rfl
    rw [List.length_nil]
    go_wp2
    refine bodyPost_ret (results_cell_pair rfl _ _ w.heap.size 71 (verL none 0 ⟨(0, 0), [], false, []⟩) _ rfl (((((X2.out.put 0 _ rfl).put 1 _ rfl).put 2 _ rfl).put 3 _ rfl).put 4 _ rfl) Tryz.underlying71 rfl (by kernel_rfl)) rfl ?_
    rw [WN.out]
    exact ⟨none, 0, rfl, ((((E2.out.setCell (p := ⟨w.heap.size, 0, none⟩) (by simp) _).setCell (p := ⟨w.heap.size, 1, none⟩) (by simp) _).setCell (p := ⟨w.heap.size, 2, none⟩) (by simp) _).setCell (p := ⟨w.heap.size, 3, none⟩) (by simp) _).setCell (p := ⟨w.heap.size, 4, none⟩) (by simp) _⟩
  · obtain ⟨x0, r0, hqr⟩ : ∃ x0 r0, q = x0 :: r0 := by
      cases q with
      | nil => exact absurd rfl h0
      | cons x0 r0 => exact ⟨x0, r0, rfl⟩
    have BW := Lib.hid (show zz = Sp.best x0 r0 by rw [WN.out, hqr])
    clear WN
    obtain ⟨n, hn⟩ : ∃ n, q.length = n + 1 := ⟨q.length - 1, by have := List.length_pos_iff.2 h0; omega⟩
    have rn : r0.length = n := by rw [hqr] at hn; simpa using hn
    have RN := Lib.hid rn
    have Q0 := Lib.hid (show ∀ h : 0 < q.length, q[0] = x0 from fun h => by simp only [hqr, List.getElem_cons_zero])
    have QS := Lib.hid (show ∀ k (h : k + 1 < q.length) (h' : k < r0.length), q[k + 1] = r0[k] from fun k h h' => by simp only [hqr, List.getElem_cons_succ])
    clear hqr rn
    have dq := Lib.hid (show decide (q ≠ []) = true from decide_eq_true h0)
    obtain ⟨eb, eo, rfl, hc⟩ := V2.out.at (by omega)
    obtain ⟨A3, c3, ⟨c0, c1, c2x, c3x, c4⟩, pst⟩ := hc 0 (by omega)
    simp only [Nat.zero_mul, Nat.add_zero] at c0 c1 c2x c3x c4
    have HC := Lib.hid (show ∀ k, (hk : k < n) → ∃ A4 c4 x, x = r0[k]'(by have := RN.out; omega) ∧ w2.cell? ⟨eb, eo + 5 + k * 5, none⟩ = some (.int .i64 x.dot.1) ∧ w2.cell? ⟨eb, eo + 5 + k * 5 + 1, none⟩ = some (.int .i64 x.dot.2) ∧ w2.cell? ⟨eb, eo + 5 + k * 5 + 2, none⟩ = some (.slice A4 (x : Sp.Ver).past.length c4) ∧ w2.cell? ⟨eb, eo + 5 + k * 5 + 3, none⟩ = some (.bool x.dead) ∧ w2.cell? ⟨eb, eo + 5 + k * 5 + 4, none⟩ = some (.string (strOf x.data)) from fun k hk => by
      obtain ⟨A4, c4, ⟨d0, d1, d2, d3, d4⟩, _⟩ := hc (k + 1) (by omega)
      rw [show eo + (k + 1) * 5 = eo + 5 + k * 5 by omega] at d0 d1 d2 d3 d4
      rw [QS.out k (by omega) (by have := RN.out; omega)] at d0 d1 d2 d3 d4
      exact ⟨A4, c4, _, rfl, d0, d1, d2, d3, d4⟩)
    rw [Q0.out (by omega)] at c0 c1 c2x c3x c4
    rw [hn]
    have n1 : ((n : Int) + 1 == 0) = false := by rw [beq_eq_false_iff_ne]; omega
    have nb : (n : Int) ≤ 1000 := by omega
    have w9 : IntKind.i64.wrap ((n : Int) + 1 - 1) = (n : Int) := by rw [IntWalk.i64_in _ (by omega)]; omega
    have hcap2 := Lib.hid (show n + 1 ≤ c2 by omega)
    clear pst hc h0 hn QL hcap QS Q0
    go_upto_region 5 with fail
    obtain ⟨w3, hw3⟩ : ∃ w3, w3 = w2.alloc (.cells (verL A3 c3 x0) 71) := ⟨_, rfl⟩
    have X3 := Lib.hid (show isBlk w3 w2.heap.size 71 (verL A3 c3 x0) by rw [hw3]; exact box_at w2 _ _)
    have E3 := Lib.hid (show Ext w2 w3 by rw [hw3]; exact Ext.alloc _ _)
    rw [← hw3]
    have k1 : (1 : Int) ≤ (n : Int) + 1 := by omega
    have k2 : ((n : Int) + 1).toNat = n + 1 := by omega
    have k3 : n + 1 ≤ c2 := hcap2.out
    clear hw3 c0 c1 c2x c3x c4
    go_wp2
    · obtain rfl : n = 0 := by omega
      clear k3 nb n1 w9 k1 k2
      go_loopw [20] (fun v20 wr => ∃ k : Nat, k ≤ 0 ∧ v20 = .int .i64 k ∧ (∃ A4 c4, isBlk wr w2.heap.size 71 (verL A4 c4 (Sp.best x0 (r0.take k)))) ∧ Ext w2 wr) (fun v20 _ => 0 - (intOf v20).toNat)
      case atStart => exact ⟨0, Nat.zero_le _, rfl, ⟨_, _, X3.out⟩, E3.out⟩
      case round =>
        obtain ⟨k, hk, rfl, hx, hb⟩ := hrel
        obtain rfl : k = 0 := by omega
        obtain ⟨A5, c5, hx5⟩ := hx
        have BF := Lib.hid (show zz = Sp.best x0 (r0.take 0) by rw [BW.out, List.take_of_length_le (by have := RN.out; omega)])
        obtain ⟨x5, hx5e⟩ : ∃ x5, x5 = Sp.best x0 (r0.take 0) := ⟨_, rfl⟩
        rw [← hx5e] at hx5 BF
        clear hx5e
        have Y5 := Lib.hid hx5
        have Z5 := Lib.hid (X2.out.below hb)
        have E5 := Lib.hid (E2.out.trans hb)
        have y0 := (Y5.out.cell 0).trans rfl
        have y1 := (Y5.out.cell 1).trans rfl
        have y2 := (Y5.out.cell 2).trans rfl
        have y3 := (Y5.out.cell 3).trans rfl
        have y4 := (Y5.out.cell 4).trans rfl
        have z0 := (Z5.out.cell 0).trans rfl
        have z1 := (Z5.out.cell 1).trans rfl
        have z2 := (Z5.out.cell 2).trans rfl
        have z3 := (Z5.out.cell 3).trans rfl
        have z4 := (Z5.out.cell 4).trans rfl
        have g0 := Z5.out.frozen 0
        have g1 := Z5.out.frozen 1
        have g2 := Z5.out.frozen 2
        have g3 := Z5.out.frozen 3
        have g4 := Z5.out.frozen 4
        clear hx5 hb
        go_wp2
        refine bodyPost_ret (results_cell_pair rfl _ _ w.heap.size 71 (verL A5 c5 x5) _ rfl (((((Z5.out.put 0 _ rfl).put 1 _ rfl).put 2 _ rfl).put 3 _ rfl).put 4 _ rfl) Tryz.underlying71 rfl (by kernel_rfl)) rfl ?_
        refine ⟨A5, c5, ?_, ((((E5.out.setCell (p := ⟨w.heap.size, 0, none⟩) (by simp) _).setCell (p := ⟨w.heap.size, 1, none⟩) (by simp) _).setCell (p := ⟨w.heap.size, 2, none⟩) (by simp) _).setCell (p := ⟨w.heap.size, 3, none⟩) (by simp) _).setCell (p := ⟨w.heap.size, 4, none⟩) (by simp) _⟩
        rw [dq.out, BF.out]
        rfl
    · clear k3 n1 w9 k1 k2
      go_loopw [20] (fun v20 wr => ∃ k : Nat, k ≤ n ∧ v20 = .int .i64 k ∧ (∃ A4 c4, isBlk wr w2.heap.size 71 (verL A4 c4 (Sp.best x0 (r0.take k)))) ∧ Ext w2 wr) (fun v20 _ => n - (intOf v20).toNat)
      case atStart => exact ⟨0, Nat.zero_le _, rfl, ⟨_, _, X3.out⟩, E3.out⟩
      case round =>
        obtain ⟨k, hk, rfl, hx, hb⟩ := hrel
        by_cases hlt : k < n
        · obtain ⟨A5, c5, hx5⟩ := hx
          have BT := Lib.hid (Sp.best_take x0 r0 k (by have := RN.out; omega))
          obtain ⟨x5, hx5e⟩ : ∃ x5, x5 = Sp.best x0 (r0.take k) := ⟨_, rfl⟩
          rw [← hx5e] at hx5 BT
          clear hx5e
          have Y5 := Lib.hid hx5
          have HB := Lib.hid hb
          obtain ⟨A6, c6, x6, hx6, d0, d1, d2, d3, d4⟩ := HC.out k hlt
          rw [← hx6] at BT
          clear hx6
          have d0 := hb.cell d0
          have d1 := hb.cell d1
          have d2 := hb.cell d2
          have d3 := hb.cell d3
          have d4 := hb.cell d4
          have kb : (k : Int) < (n : Int) := by omega
          clear hx5 hb
          go_upto_region 8 with fail
          obtain ⟨w6, hw6⟩ : ∃ w6, w6 = wr.alloc (.cells (verL A6 c6 x6) 71) := ⟨_, rfl⟩
          have X6 := Lib.hid (show isBlk w6 wr.heap.size 71 (verL A6 c6 x6) by rw [hw6]; exact box_at wr _ _)
          have E6 := Lib.hid (show Ext wr w6 by rw [hw6]; exact Ext.alloc _ _)
          have Y6 := Lib.hid (Y5.out.below E6.out)
          rw [← hw6]
          clear hw6 d0 d1 d2 d3 d4
          have f0 := (X6.out.cell 0).trans rfl
          have f1 := (X6.out.cell 1).trans rfl
          have f2 := (X6.out.cell 2).trans rfl
          have f3 := (X6.out.cell 3).trans rfl
          have f4 := (X6.out.cell 4).trans rfl
          have y0 := (Y6.out.cell 0).trans rfl
          have y1 := (Y6.out.cell 1).trans rfl
          have y2 := (Y6.out.cell 2).trans rfl
          have y3 := (Y6.out.cell 3).trans rfl
          have y4 := (Y6.out.cell 4).trans rfl
          go_wp2_with fail
          refine (wins_is x6 x5 A6 A5 c6 c5 w6).mono ?_
          rintro e w7 ⟨rfl, hb7⟩
          obtain ⟨r, hr⟩ : ∃ r, r = Sp.wins x6 x5 := ⟨_, rfl⟩
          rw [← hr] at BT ⊢
          clear hr
          have X7 := Lib.hid (X6.out.below hb7)
          have Y7 := Lib.hid (Y6.out.below hb7)
          have E7 := Lib.hid (HB.out.trans (E6.out.trans hb7))
          clear hb7 f0 f1 f2 f3 f4 y0 y1 y2 y3 y4
          have f0 := (X7.out.cell 0).trans rfl
          have f1 := (X7.out.cell 1).trans rfl
          have f2 := (X7.out.cell 2).trans rfl
          have f3 := (X7.out.cell 3).trans rfl
          have f4 := (X7.out.cell 4).trans rfl
          have y0 := (Y7.out.cell 0).trans rfl
          have y1 := (Y7.out.cell 1).trans rfl
          have y2 := (Y7.out.cell 2).trans rfl
          have y3 := (Y7.out.cell 3).trans rfl
          have y4 := (Y7.out.cell 4).trans rfl
          have g0 := Y7.out.frozen 0
          have g1 := Y7.out.frozen 1
          have g2 := Y7.out.frozen 2
          have g3 := Y7.out.frozen 3
          have g4 := Y7.out.frozen 4
          cases r with
          | false =>
            have BT2 := Lib.hid (show Sp.best x0 (r0.take (k + 1)) = x5 by rw [BT.out]; rfl)
            clear BT
            go_wp2
            go_roundw
            case rel => exact ⟨k + 1, by omega, by go_num, ⟨_, _, by rw [BT2.out]; exact Y7.out⟩, E7.out⟩
            case measure => simp [intOf]; omega
          | true =>
            have BT2 := Lib.hid (show Sp.best x0 (r0.take (k + 1)) = x6 by rw [BT.out]; rfl)
            clear BT
            go_wp2
            go_roundw
            case rel => exact ⟨k + 1, by omega, by go_num, ⟨A6, c6, by rw [BT2.out]; exact ((((Y7.out.put 0 _ rfl).put 1 _ rfl).put 2 _ rfl).put 3 _ rfl).put 4 _ rfl⟩, ((((E7.out.setCell (p := ⟨w2.heap.size, 0, none⟩) (by simp) _).setCell (p := ⟨w2.heap.size, 1, none⟩) (by simp) _).setCell (p := ⟨w2.heap.size, 2, none⟩) (by simp) _).setCell (p := ⟨w2.heap.size, 3, none⟩) (by simp) _).setCell (p := ⟨w2.heap.size, 4, none⟩) (by simp) _⟩
            case measure => simp [intOf]; omega
        · obtain rfl : k = n := by omega
          obtain ⟨A5, c5, hx5⟩ := hx
          have BF := Lib.hid (show zz = Sp.best x0 (r0.take k) by rw [BW.out, List.take_of_length_le (by have := RN.out; omega)])
          obtain ⟨x5, hx5e⟩ : ∃ x5, x5 = Sp.best x0 (r0.take k) := ⟨_, rfl⟩
          rw [← hx5e] at hx5 BF
          clear hx5e
          have Y5 := Lib.hid hx5
          have Z5 := Lib.hid (X2.out.below hb)
          have E5 := Lib.hid (E2.out.trans hb)
          have y0 := (Y5.out.cell 0).trans rfl
          have y1 := (Y5.out.cell 1).trans rfl
          have y2 := (Y5.out.cell 2).trans rfl
          have y3 := (Y5.out.cell 3).trans rfl
          have y4 := (Y5.out.cell 4).trans rfl
          have z0 := (Z5.out.cell 0).trans rfl
          have z1 := (Z5.out.cell 1).trans rfl
          have z2 := (Z5.out.cell 2).trans rfl
          have z3 := (Z5.out.cell 3).trans rfl
          have z4 := (Z5.out.cell 4).trans rfl
          have g0 := Z5.out.frozen 0
          have g1 := Z5.out.frozen 1
          have g2 := Z5.out.frozen 2
          have g3 := Z5.out.frozen 3
          have g4 := Z5.out.frozen 4
          clear hx5 hb
          go_wp2
          refine bodyPost_ret (results_cell_pair rfl _ _ w.heap.size 71 (verL A5 c5 x5) _ rfl (((((Z5.out.put 0 _ rfl).put 1 _ rfl).put 2 _ rfl).put 3 _ rfl).put 4 _ rfl) Tryz.underlying71 rfl (by kernel_rfl)) rfl ?_
          refine ⟨A5, c5, ?_, ((((E5.out.setCell (p := ⟨w.heap.size, 0, none⟩) (by simp) _).setCell (p := ⟨w.heap.size, 1, none⟩) (by simp) _).setCell (p := ⟨w.heap.size, 2, none⟩) (by simp) _).setCell (p := ⟨w.heap.size, 3, none⟩) (by simp) _).setCell (p := ⟨w.heap.size, 4, none⟩) (by simp) _⟩
          rw [dq.out, BF.out]
          rfl
set_option maxRecDepth 100000 in
set_option maxHeartbeats 4000000 in
theorem rlive2_calls (l : List Sp.Ver) (A : Option Addr) (cap : Nat) (w0 w : World) (e0 : Ext w0 w) (h : Vers w0 A l) (hl : l.length ≤ 1000000) : Calls Tryz.prog 114 #[.slice A l.length cap] w fun e w' => ∃ (v : Value) (m : List (Option Addr × Nat × Sp.Ver)), e = .returned v ∧ m.map (·.2.2) = Sp.live l ∧ w'.ownsRow w.heap.size 71 5 v (Sp.live l).length (versC m) ∧ (∀ x ∈ m, Past w0 x.1 x.2.2) ∧ Ext w w' := by
  go_enter Tryz.func114, Tryz.ntmps114
  go_wp2
  go_loopw [3, 4] (fun v3 v8 wr => ∃ k : Nat, k ≤ l.length ∧ v8 = .int .i64 k ∧ (∃ m : List (Option Addr × Nat × Sp.Ver), m.map (·.2.2) = Sp.live (l.take k) ∧ wr.ownsRow w.heap.size 71 5 v3 m.length (versC m) ∧ ∀ x ∈ m, Past w0 x.1 x.2.2) ∧ Ext w wr) (fun _ v8 _ => l.length - (intOf v8).toNat)
  case atStart => exact ⟨0, Nat.zero_le _, rfl, ⟨[], rfl, ⟨rfl, .inl ⟨rfl, rfl⟩⟩, fun _ h => by cases h⟩, Ext.refl _⟩
  case round =>
    obtain ⟨k, hk, rfl, ⟨m, hm, hown, hp⟩, hb⟩ := hrel
    by_cases hlt : k < l.length
    · obtain ⟨g, o, rfl, hc0⟩ := h.at (by omega)
      obtain ⟨A', c', hvc, hpast⟩ := hc0 k hlt
      obtain ⟨c0, c1, c2, c3, c4⟩ := hvc.ext (e0.trans hb)
      have HC := Lib.hid hpast
      have HP := Lib.hid hp
      have ml : m.length ≤ k := by
        have := congrArg List.length hm
        rw [List.length_map] at this
        rw [this]
        unfold Sp.live
        exact Nat.le_trans (List.length_filter_le _ _) (List.length_take_le _ _)
      have st : Sp.live (l.take (k + 1)) = Sp.live (l.take k) ++ if l[k].dead then [] else [l[k]] := by
        unfold Sp.live
        rw [List.take_succ_eq_append_getElem hlt, List.filter_append]
        cases hh : l[k].dead <;> simp [hh]
      have HM := Lib.hid hm
      have HO := Lib.hid hown
      clear hm hown hp hvc hpast hc0
      by_cases hd : l[k].dead = true
      · rw [hd] at c3
        rw [if_pos hd, List.append_nil] at st
        have ST := Lib.hid st
        clear st
        go_wp2_with fail
        go_roundw
        case rel => exact ⟨k + 1, by omega, by go_num, ⟨m, by rw [ST.out]; exact HM.out, HO.out, HP.out⟩, hb⟩
        case measure => simp [intOf]; omega
      · have hd' : l[k].dead = false := by simpa using hd
        rw [hd'] at c3
        rw [if_neg hd] at st
        have ST := Lib.hid st
        have HD := Lib.hid hd'
        clear st hd hd'
        go_wp2_with (at_builtin; refine app_new appVer rfl _ _ rfl w.heap.size _ m.length _ rfl (HO.out) #[.int .i64 l[k].dot.1, .int .i64 l[k].dot.2, .slice A' l[k].past.length c', .bool false, .string (strOf l[k].data)] 71 1 rfl rfl (by intro u hu; simp at hu; rcases hu with rfl | rfl | rfl | rfl | rfl <;> rfl) (by decide) (by omega) (hb.size) ?_; intro g6 cap6 w6 hown6 hgr6 hb6 hbg6; have O6 := Lib.hid hown6; have B6 := Lib.hid hb6; clear hown6 hgr6 hb6)
        go_roundw
        case rel =>
          refine ⟨k + 1, by omega, by go_num, ⟨m ++ [(A', c', l[k])], ?_, ?_, ?_⟩, B6.out.from hb⟩
          · rw [List.map_append, HM.out, ST.out]; rfl
          · rw [versC_append, List.length_append]
            have := O6.out
            simpa [versC, HD.out] using this
          · intro x hx
            rcases List.mem_append.1 hx with h1 | h1
            · exact HP.out x h1
            · obtain rfl := List.mem_singleton.1 h1
              exact HC.out
        case measure => simp [intOf]; omega
    · obtain rfl : k = l.length := by omega
      rw [List.take_length] at hm
      have HM := Lib.hid hm
      clear hm
      go_wp2
      go_ret
      refine ⟨_, m, rfl, HM.out, ?_, hp, hb⟩
      rw [← HM.out, List.length_map]
      exact hown
namespace Sp
def shownM (m : List DE) : List DE := m.filterMap fun e => if live e.2 = [] then none else some (e.1, live e.2)
theorem toP_shown (m : List DE) : toP (shownM m) = shownE (toP m) := by
  induction m with
  | nil => rfl
  | cons e r ih =>
    unfold shownM shownE toP at *
    rw [List.map_cons, List.filterMap_cons, List.filterMap_cons]
    by_cases h : live e.2 = []
    · simp only [h, if_true]; exact ih
    · simp only [h, if_false, List.map_cons]; rw [ih]
theorem shownM_step (m : List DE) (k : Nat) (h : k < m.length) : shownM (m.take (k + 1)) = shownM (m.take k) ++ if live (m[k]).2 = [] then [] else [((m[k]).1, live (m[k]).2)] := by
  unfold shownM
  rw [List.take_succ_eq_append_getElem h, List.filterMap_append]
  by_cases hl : live (m[k]).2 = [] <;> simp [hl]
theorem shownM_len (m : List DE) : (shownM m).length ≤ m.length := List.length_filterMap_le _ _
end Sp
def LiveAt (w wr : World) (x : Option Addr × Nat × Sp.DE) : Prop := ∃ mv : List (Option Addr × Nat × Sp.Ver), mv.map (·.2.2) = x.2.2.2 ∧ wr.ownsRow 0 71 5 (.slice x.1 x.2.2.2.length x.2.1) x.2.2.2.length (versC mv) ∧ ∀ y ∈ mv, Past w y.1 y.2.2
theorem LiveAt.keep {T : TypeId → Prop} (hT : ¬ T 71) {B : Nat} {w wr w' : World} {x : Option Addr × Nat × Sp.DE} (h : LiveAt w wr x) (k : KB T B wr w') : LiveAt w w' x := by
  obtain ⟨mv, h1, h2, h3⟩ := h
  exact ⟨mv, h1, own_keep hT h2 k, h3⟩
theorem LiveAt.vers {w wr : World} {x : Option Addr × Nat × Sp.DE} (h : LiveAt w wr x) (e : Ext w wr) : Vers wr x.1 x.2.2.2 := by
  obtain ⟨mv, h1, h2, h3⟩ := h
  obtain ⟨A, c, e2, hc⟩ := own_read h2
  cases e2
  exact ⟨mv, h1, hc, fun y hy => (h3 y hy).ext e⟩
set_option maxRecDepth 100000 in
set_option maxHeartbeats 4000000 in
theorem rshown_calls (m : List Sp.DE) (A : Option Addr) (cap : Nat) (w : World) (h : EntsAt w A m) (hl : m.length ≤ 1000000) (hs : ∀ e ∈ m, e.2.length ≤ 1000000) :
    Calls Tryz.prog 50 #[.slice A m.length cap] w fun e w' => ∃ B c, e = .returned (.slice B (Sp.shownM m).length c) ∧ EntsAt w' B (Sp.shownM m) ∧ Ext w w' := by
  have HH := Lib.hid h
  have HS := Lib.hid hs
  clear h hs
  go_enter Tryz.func50, Tryz.ntmps50
  go_wp2
  go_loopw [3, 4] (fun v3 v4 wr => ∃ k : Nat, k ≤ m.length ∧ v4 = .int .i64 k ∧ (∃ mo : List (Option Addr × Nat × Sp.DE), mo.map (·.2.2) = Sp.shownM (m.take k) ∧ wr.ownsRow w.heap.size 43 2 v3 mo.length (entsC mo) ∧ ∀ x ∈ mo, LiveAt w wr x) ∧ Ext w wr) (fun _ v4 _ => m.length - (intOf v4).toNat)
  case atStart => exact ⟨0, Nat.zero_le _, rfl, ⟨[], rfl, World.ownsRow_nil _ _ _ _, fun _ h => by cases h⟩, Ext.refl _⟩
  case round =>
    obtain ⟨k, hk, rfl, ⟨mo, hm, hown, hp⟩, hb⟩ := hrel
    by_cases hlt : k < m.length
    · obtain ⟨eb, eo, rfl, he⟩ := HH.out.at (by omega)
      obtain ⟨Av, cv, c0, c1, hv⟩ := he k hlt
      have st := Sp.shownM_step m k hlt
      have hls := HS.out _ (List.getElem_mem hlt)
      obtain ⟨x, hx⟩ : ∃ x, x = m[k] := ⟨_, rfl⟩
      rw [← hx] at c0 c1 hv st hls
      have f0 := hb.cell c0
      have f1 := hb.cell c1
      have ml : mo.length ≤ k := by
        have := congrArg List.length hm
        rw [List.length_map] at this
        rw [this]
        exact Nat.le_trans (Sp.shownM_len _) (List.length_take_le _ _)
      have LV := Lib.hid (rlive2_calls x.2 Av cv w wr hb hv hls)
      have HM := Lib.hid hm
      have HO := Lib.hid hown
      have HP := Lib.hid hp
      have HB := Lib.hid hb
      have ST := Lib.hid st
      have C0 := Lib.hid c0
      have b1 : (k : Int) < (m.length : Int) := by omega
      clear hm hown hp hb st c0 c1 he hv hls hx
      go_wp2_with fail
      refine LV.out.mono ?_
      rintro e w2 ⟨v2, mv, rfl, hmv, hO2, hpv, hb2⟩
      obtain ⟨A2, c2, rfl, _⟩ := own_read hO2
      have O2 := Lib.hid hO2
      have MV := Lib.hid hmv
      have PV := Lib.hid hpv
      have B2 := Lib.hid hb2
      have E2 := Lib.hid (HB.out.trans hb2)
      clear hO2 hmv hpv hb2 f0 f1
      by_cases hl0 : Sp.live x.2 = []
      · have e1 : decide (0 < (Sp.live x.2).length) = false := by rw [hl0]; rfl
        have ST2 := Lib.hid (show Sp.shownM (m.take (k + 1)) = Sp.shownM (m.take k) by rw [ST.out, if_pos hl0, List.append_nil])
        clear hl0
        go_wp2
        go_roundw
        case rel => exact ⟨k + 1, by omega, by go_num, ⟨mo, by rw [ST2.out]; exact HM.out, own_ext HO.out B2.out, fun y hy => (HP.out y hy).keep (T := noT) (fun h => h) (KB.ext HB.out.size B2.out)⟩, E2.out⟩
        case measure => simp [intOf]; omega
      · have e1 : decide (0 < (Sp.live x.2).length) = true := decide_eq_true (List.length_pos_iff.2 hl0)
        have ST2 := Lib.hid (show Sp.shownM (m.take (k + 1)) = Sp.shownM (m.take k) ++ [(x.1, Sp.live x.2)] by rw [ST.out, if_neg hl0])
        have f0 := E2.out.cell C0.out
        clear hl0
        go_wp2_with (at_builtin; refine app_new appEnt rfl _ _ rfl w.heap.size _ mo.length _ rfl (own_ext HO.out B2.out) #[.string (strOf x.1), .slice A2 (Sp.live x.2).length c2] 43 1 rfl rfl (by intro u hu; simp at hu; rcases hu with rfl | rfl <;> rfl) (by decide) (by omega) (E2.out.size) ?_; intro g6 cap6 w6 hown6 hgr6 hb6 hbg6; have O6 := Lib.hid hown6; have G6 := Lib.hid hgr6; have B6 := Lib.hid hb6; clear hown6 hgr6 hb6 hbg6)
        have KG := Lib.hid (show KB (fun t => t = 43) w.heap.size w2 w6 from KB.grown (own_ext HO.out B2.out) rfl G6.out B6.out)
        go_roundw
        case rel =>
          refine ⟨k + 1, by omega, by go_num, ⟨mo ++ [(A2, c2, (x.1, Sp.live x.2))], ?_, ?_, fun y hy => ?_⟩, Below.trans E2.out B6.out⟩
          · rw [List.map_append, HM.out, ST2.out]; rfl
          · rw [entsC_snoc, List.length_append]
            exact O6.out
          · rcases List.mem_append.1 hy with h1 | h1
            · exact ((HP.out y h1).keep (T := noT) (fun h => h) (KB.ext HB.out.size B2.out)).keep (by intro h; cases h) KG.out
            · obtain rfl := List.mem_singleton.1 h1
              exact LiveAt.keep (T := fun t => t = 43) (by intro h; cases h) ⟨mv, MV.out, own_lowT O2.out (Nat.zero_le _), PV.out⟩ KG.out
        case measure => simp [intOf]; omega
    · obtain rfl : k = m.length := by omega
      rw [List.take_length] at hm
      have hlen : mo.length = (Sp.shownM m).length := by rw [← hm, List.length_map]
      rw [hlen] at hown
      obtain ⟨B, c, rfl, hc⟩ := own_read hown
      have HE := Lib.hid (show EntsAt wr B (Sp.shownM m) from ⟨mo, hm, hc, fun y hy => (hp y hy).vers hb⟩)
      have HB := Lib.hid hb
      clear hm hown hp hb hc hlen
      go_wp2
      go_ret
      exact ⟨B, c, rfl, HE.out, HB.out⟩
theorem kid_fold (s : ByteArray) (ds : List Value) (h : ds.length = 32) : List.foldl (fun (cs : Array Value) (x : Value × Nat) => cs.setIfInBounds (1 + x.snd) x.fst) (#[.string s, .int .u8 0, .int .u8 0, .int .u8 0, .int .u8 0, .int .u8 0, .int .u8 0, .int .u8 0, .int .u8 0, .int .u8 0, .int .u8 0, .int .u8 0, .int .u8 0, .int .u8 0, .int .u8 0, .int .u8 0, .int .u8 0, .int .u8 0, .int .u8 0, .int .u8 0, .int .u8 0, .int .u8 0, .int .u8 0, .int .u8 0, .int .u8 0, .int .u8 0, .int .u8 0, .int .u8 0, .int .u8 0, .int .u8 0, .int .u8 0, .int .u8 0, .int .u8 0] : Array Value) ds.zipIdx = (.string s :: ds).toArray := by
  rw [fold_putsA 1 ds 0]
  have := putsA_mid [.string s] (List.replicate 32 (.int .u8 0)) ds [] 1 rfl (by rw [h]; rfl)
  rw [List.append_nil, List.append_nil] at this
  exact this
theorem kid_fold2 (ka : Array Value) (h : ka.size = 33) : Array.foldl (fun (cs : Array Value) (x : Value × Nat) => cs.setIfInBounds x.snd x.fst) (#[.string ⟨#[]⟩, .int .u8 0, .int .u8 0, .int .u8 0, .int .u8 0, .int .u8 0, .int .u8 0, .int .u8 0, .int .u8 0, .int .u8 0, .int .u8 0, .int .u8 0, .int .u8 0, .int .u8 0, .int .u8 0, .int .u8 0, .int .u8 0, .int .u8 0, .int .u8 0, .int .u8 0, .int .u8 0, .int .u8 0, .int .u8 0, .int .u8 0, .int .u8 0, .int .u8 0, .int .u8 0, .int .u8 0, .int .u8 0, .int .u8 0, .int .u8 0, .int .u8 0, .int .u8 0] : Array Value) ka.zipIdx 0 33 = ka := by
  have hz : 33 = ka.zipIdx.size := by rw [Array.size_zipIdx, h]
  rw [hz, ← Array.foldl_toList, Array.toList_zipIdx]
  have h1 := fold_putsA 0 ka.toList 0 (#[.string ⟨#[]⟩, .int .u8 0, .int .u8 0, .int .u8 0, .int .u8 0, .int .u8 0, .int .u8 0, .int .u8 0, .int .u8 0, .int .u8 0, .int .u8 0, .int .u8 0, .int .u8 0, .int .u8 0, .int .u8 0, .int .u8 0, .int .u8 0, .int .u8 0, .int .u8 0, .int .u8 0, .int .u8 0, .int .u8 0, .int .u8 0, .int .u8 0, .int .u8 0, .int .u8 0, .int .u8 0, .int .u8 0, .int .u8 0, .int .u8 0, .int .u8 0, .int .u8 0, .int .u8 0] : Array Value)
  simp only [Nat.zero_add] at h1
  rw [h1]
  have h2 := putsA_mid [] (#[.string ⟨#[]⟩, .int .u8 0, .int .u8 0, .int .u8 0, .int .u8 0, .int .u8 0, .int .u8 0, .int .u8 0, .int .u8 0, .int .u8 0, .int .u8 0, .int .u8 0, .int .u8 0, .int .u8 0, .int .u8 0, .int .u8 0, .int .u8 0, .int .u8 0, .int .u8 0, .int .u8 0, .int .u8 0, .int .u8 0, .int .u8 0, .int .u8 0, .int .u8 0, .int .u8 0, .int .u8 0, .int .u8 0, .int .u8 0, .int .u8 0, .int .u8 0, .int .u8 0, .int .u8 0] : Array Value).toList ka.toList [] 0 rfl (by rw [Array.length_toList, h]; rfl)
  simpa using h2
section
variable {P : Program} {ops : Array Oper}
end
set_option maxRecDepth 100000 in
set_option maxHeartbeats 4000000 in
theorem rnode_step (m : List Sp.DE) (hm : Sp.GoodM m) (A : Option Addr) (cap : Nat) (d : Sp.Bs) (hdir : Sp.Dir d) (hdl : d.length ≤ 1000) (s : Sp.T) (hok : Sp.Ok s) (hsz : Sp.sizeT s ≤ 200) (hsub : Sp.subs (Sp.toP m) (Sp.parts d) = Sp.entries s)
    (IH : ∀ i (h : i < s.kids.length) (w : World), EntsAt w A m → KeysAt w 0 → Calls Tryz.prog 149 #[.slice A m.length cap, .string (strOf (Sp.down d (s.kids[i]).1))] w fun e w' => ∃ A2 c2 B2 c3, e = .returned (nodeV A2 (s.kids[i]).2.leaf.length c2 B2 (s.kids[i]).2.kids.length c3) ∧ Vers w' A2 (s.kids[i]).2.leaf ∧ Kids w' B2 (Sp.nodeT (s.kids[i]).2).2 ∧ Ext w w')
    (w : World) (hE : EntsAt w A m) (K : KeysAt w 0) :
    Calls Tryz.prog 149 #[.slice A m.length cap, .string (strOf d)] w fun e w' => ∃ A2 c2 B2 c3, e = .returned (nodeV A2 s.leaf.length c2 B2 s.kids.length c3) ∧ Vers w' A2 s.leaf ∧ Kids w' B2 (Sp.nodeT s).2 ∧ Ext w w' := by
  have hget : Sp.rget m d = s.leaf := by
    rw [Sp.get_subs m hm.1 d hdir, hsub]
    cases s with
    | mk leaf k => exact Sp.get0_entries leaf k
  have hnam : Sp.rnames d [] m = s.kids.map (·.1) := by
    rw [Sp.names_subs d hdir m hm.1 [], hsub]
    cases s with
    | mk leaf k => exact Sp.namesE_entries leaf k hok.2.1 hok.2.2
  have GC := Lib.hid (show ∀ W, Ext w W → _ from fun W e => rget_calls m A cap d W (hE.ext e) (Nat.le_trans hm.2 (by decide)))
  have NC := Lib.hid (show ∀ W, Ext w W → _ from fun W e => rnames_calls m A cap d W (hE.ext e) (Nat.le_trans hm.2 (by decide)) (Sp.good_len hm) (Nat.le_trans hdl (by decide)))
  rw [hget] at GC
  rw [hnam, List.length_map] at NC
  have HIH := Lib.hid IH
  have HE := Lib.hid hE
  have KK := Lib.hid K
  have hkl : s.kids.length ≤ 200 := by
    have h1 := Sp.kids_size s.kids (ok_rise hok).2
    have h2 := Sp.sizeT_n0 s
    omega
  have HOK := Lib.hid hok
  have tok1 : True := trivial
  have tok2 : True := trivial
  clear hget hnam IH hE K hsub hok hm hdir
  go_enter Tryz.func149, Tryz.ntmps149
  go_wp2_with (have _t := tok1; ((with_reducible refine at_alloc (t := 116) rfl ?_); refine box_new rfl (cs := #[.slice none 0 0, .slice none 0 0]) (t := 116) (by first | (go_simp; done) | (go_simp; rfl)) ?_; intro g2 w2 hg2 hx2 hb2; have H2 := Lib.hid hx2; have B2 := Lib.hid (show Ext w w2 from hb2); have GG2 := Lib.hid hg2; clear tok1 _t hx2 hb2 hg2))
  refine (GC.out w2 B2.out).mono ?_
  rintro e w2' ⟨Av, cv, rfl, hv, rfl⟩
  have V2 := Lib.hid hv
  clear hv
  go_wp2_with (have _t := tok2; ((with_reducible refine at_alloc (t := 116) rfl ?_); refine box_new rfl (cs := #[.slice none 0 0, .slice none 0 0]) (t := 116) (by first | (go_simp; done) | (go_simp; rfl)) ?_; intro g4 w4 hg4 hx4 hb4; have H4 := Lib.hid hx4; have B4 := Lib.hid (show Ext w2 w4 from hb4); have GG4 := Lib.hid hg4; have k0 := (hx4.cell 0).trans rfl; have k1 := (hx4.cell 1).trans rfl; have k2 := hx4.frozen 0; have k3 := hx4.frozen 1; clear tok2 _t hx4 hb4 hg4))
  obtain ⟨w5, hw5⟩ : ∃ w5, w5 = (w4.setCell ⟨g4, 0, none⟩ (.slice Av s.leaf.length cv)).setCell ⟨g4, 1, none⟩ (.slice none 0 0) := ⟨_, rfl⟩
  have X5 := Lib.hid (show isBlk w5 g4 116 #[.slice Av s.leaf.length cv, .slice none 0 0] by rw [hw5]; exact (H4.out.put 0 _ rfl).put 1 _ rfl)
  have B5 := Lib.hid (show Ext w2 w5 by rw [hw5]; exact (B4.out.setCell GG4.out _).setCell GG4.out _)
  rw [← hw5]
  clear hw5 k0 k1 k2 k3
  refine (NC.out w5 (B2.out.trans B5.out)).mono ?_
  rintro e wn ⟨Bn, cn, rfl, hnn, hbn⟩
  have NN := Lib.hid hnn
  have BN := Lib.hid (show Ext w5 wn from hbn)
  have XN := Lib.hid (X5.out.below hbn)
  clear hnn hbn
  go_wp2
  have GN := Lib.hid (show g4 < wn.heap.size from XN.out.lt)
  have E5 := Lib.hid (show Ext w wn from B2.out.trans (B5.out.trans BN.out))
  have G4W := Lib.hid (show w.heap.size ≤ g4 from Nat.le_trans B2.out.size GG4.out)
  have hlen : (s.kids.map (·.1)).length = s.kids.length := List.length_map ..
  go_loopw [7] (fun v7 wr => ∃ (k : Nat) (v : Value), k ≤ s.kids.length ∧ v7 = .int .i64 k ∧ isBlk wr g4 116 #[.slice Av s.leaf.length cv, v] ∧ wr.ownsRow wn.heap.size 268 33 v k (kidsC ((Sp.nodeT s).2.take k)) ∧ Only g4 wn wr) (fun v7 _ => s.kids.length - (intOf v7).toNat)
  case atStart => exact ⟨0, _, Nat.zero_le _, rfl, XN.out, World.ownsRow_nil _ _ _ _, Only.refl _ _⟩
  case round =>
    obtain ⟨k, v, hk2, rfl, hx, ho, hon⟩ := hrel
    have HX := Lib.hid hx
    have HO := Lib.hid ho
    have ON := Lib.hid hon
    have EW := Lib.hid (show Ext w wr from E5.out.from' (hon.below G4W.out E5.out.size))
    have NW := Lib.hid (show Nams wr Bn (s.kids.map (·.1)) from Cells.apart NN.out hon XN.out (by
      intro z hz
      simp at hz
      rcases hz with rfl | rfl <;> rfl) (by
      intro u hu
      rw [strsC, List.getElem?_map] at hu
      cases hq : (s.kids.map (·.1))[0]? with
      | none => rw [hq] at hu; cases hu
      | some b => rw [hq] at hu; cases hu; rfl))
    clear hx ho hon
    by_cases hlt : k < s.kids.length
    · obtain ⟨nb, no, rfl, hnm⟩ := NW.out.at (by simp; omega)
      have n0 := hnm k (by simpa using hlt)
      rw [List.getElem_map] at n0
      have IK := Lib.hid (HIH.out k hlt)
      have NL := Lib.hid (show (s.kids[k]).1.length ≤ 12 from Sp.name_len (Sp.kids_names s.kids (ok_rise HOK.out).2 _ (List.getElem_mem hlt)))
      obtain ⟨x, hxk⟩ : ∃ x, x = s.kids[k] := ⟨_, rfl⟩
      rw [← hxk] at n0 IK NL
      have XK := Lib.hid hxk
      have k0 := (HX.out.cell 1).trans rfl
      have b1 : (k : Int) < (s.kids.length : Int) := by omega
      have DC := Lib.hid (down_calls d x.1 wr.drew hdl (by have := NL.out; omega))
      have tokD : True := trivial
      have tokN : True := trivial
      have tokS : True := trivial
      have X1 := Lib.hid n0
      have OKX := Lib.hid (show Sp.Ok x.2 from (by rw [hxk]; exact Sp.kid_ok s.kids _ _ (ok_rise HOK.out).2 (Sp.kid_at s.kids k hlt (ok_rise HOK.out).1)))
      have SZX := Lib.hid (show x.2.kids.length ≤ 200 from (by
        have h1 := Sp.kids_size x.2.kids (ok_rise OKX.out).2
        have h2 := Sp.sizeT_n0 x.2
        have h3 := Sp.kid_size s.kids (s.kids[k]).1 (s.kids[k]).2 (Sp.kid_at s.kids k hlt (ok_rise HOK.out).1)
        rw [← hxk] at h3
        have h4 := Sp.sizeT_n0 s
        omega))
      obtain ⟨ds, hds⟩ : ∃ ds, ds = (Sp.nsum (Sp.nodeT x.2)).map byteV := ⟨_, rfl⟩
      have DL := Lib.hid (show ds.length = 32 by rw [hds, List.length_map, Sp.nsum_len])
      have RSM := Lib.hid (show ∀ A c B c' W, Vers W A x.2.leaf → Kids W B (Sp.nodeT x.2).2 → KeysAt W 0 → Calls Tryz.prog 217 #[nodeV A x.2.leaf.length c B x.2.kids.length c'] W fun e w' => e = .returned (.agg ds.toArray) ∧ Ext W w' from fun A c B c' W hv hk hK => by
        have nl : (Sp.nodeT x.2).2.length = x.2.kids.length := by rw [nodeT_kids, List.length_map]
        have l0 : Sp.leaf x.2.leaf = 0 := by
          have := OKX.out
          cases hx2 : x.2 with
          | mk leaf kids =>
            rw [hx2] at this
            by_cases h0 : leaf = []
            · rw [h0]; rfl
            · exact this.1 h0
        have := rnsum_calls (Sp.nodeT x.2) A B c c' W (by rw [nodeT_leaf]; exact hv) hk (by rw [nodeT_leaf]; exact Nat.le_trans (Sp.leaf_ok l0).1 (by decide)) (by rw [nodeT_leaf]; exact fun v hv => ⟨Nat.le_trans (Sp.leaf_data l0 v hv) (by decide), Nat.le_trans ((Sp.leaf_fit fun _ => l0).2 v hv) (by decide)⟩) (by rw [nl]; exact Nat.le_trans SZX.out (by decide)) hK
        rw [nodeT_leaf, nl] at this
        rw [hds]
        exact this)
      obtain ⟨ka, hka⟩ : ∃ ka, ka = (kidL (x.1, Sp.nsum (Sp.nodeT x.2))).toArray := ⟨_, rfl⟩
      have BK := Lib.hid (show (Tryz.prog).built 268 [(0, .string (strOf x.1)), (1, .agg ds.toArray)] = some ka by rw [hka, hds]; exact built_kid (x.1, Sp.nsum (Sp.nodeT x.2)) (Sp.nsum_len _))
      have KA := Lib.hid hka
      have dl : ds.length = 32 := DL.out
      have hfold := kid_fold (strOf x.1) ds DL.out
      rw [show (Value.string (strOf x.1) :: ds).toArray = ka by rw [hka, hds]; rfl] at hfold
      have KS := Lib.hid (show ka.size = 33 by rw [hka, List.size_toArray, kidL_len _ (Sp.nsum_len _)])
      have ks := KS.out
      have hfold2 := kid_fold2 ka KS.out
      have KO := Lib.hid (show ∀ u ∈ ka.toList, u.oneCell' = true by
        rw [hka]
        intro u hu
        have : u ∈ kidsC [(x.1, Sp.nsum (Sp.nodeT x.2))] := by simpa [kidsC] using hu
        exact kids_one _ u this)
      have tokA : True := trivial
      clear hnm hxk hds hka
      go_wp2_with fail
      refine wp_region_seqT (fun W => Ext wr W) 12 17 (by kernel_rfl) (by kernel_rfl) (Ext.refl wr).drew ?_
      simp only [List.take_succ_cons, List.take_zero, List.drop_succ_cons, List.drop_zero]
      repeat (first
        | (refine floatT_step (fun K hK => ?_)
           apply Exists.intro
           refine ⟨Or.inl ⟨rfl, fun W hS => ?_⟩, ?_⟩
           · have hz : Ext wr W := hS; have k0 := ((HX.out.below hz).cell 1).trans rfl; have n0 := hz.cell X1.out
             go_simp
             first | done | exact rfl
           go_simp
           refine hK _ ?_
           clear hK K))
      refine floatT_nil ?_
      refine seqT_succ (n := 4) (fun Q' hQ' => ?_)
      go_wp2_with fail
      refine DC.out.mono ?_
      rintro e w8 ⟨rfl, rfl⟩
      go_wp2
      refine hQ' _ _ (Ext.refl wr).drew ?_
      clear hQ'
      refine seqT_succ (n := 3) (fun Q' hQ' => ?_)
      go_wp2_with fail
      refine (IK.out wr.drew (HE.out.ext EW.out.drew) (KK.out.ext EW.out.drew)).mono ?_
      rintro e w8 ⟨A8, c8, B8, c9, rfl, hv8, hk8, hb8⟩
      have V8 := Lib.hid hv8
      have K8 := Lib.hid hk8
      have B8' := Lib.hid (show Ext wr w8 from Below.trans (Below.refl _ _).drew hb8)
      clear hv8 hk8 hb8
      go_wp2
      refine hQ' _ _ B8'.out ?_
      clear hQ'
      refine seqT_succ (n := 2) (fun Q' hQ' => ?_)
      go_wp2_with fail
      refine (RSM.out _ _ _ _ w8 V8.out K8.out (KK.out.ext (EW.out.trans B8'.out))).mono ?_
      rintro e w9 ⟨rfl, hb9⟩
      have B9 := Lib.hid (show Ext wr w9 from B8'.out.trans hb9)
      clear hb9
      go_wp2
      refine hQ' _ _ B9.out ?_
      clear hQ'
      refine seqT_succ (n := 1) (fun Q' hQ' => ?_)
      go_wp2_with fail
      refine hQ' _ _ B9.out ?_
      clear hQ'
      refine seqT_succ (n := 0) (fun Q' hQ' => ?_)
      go_wp2_with ((with_reducible refine at_bslice rfl ?_); refine bslice_one rfl 114 268 _ rfl appKid (by decide) ka rfl KS.out ?_)
      refine hQ' _ _ (Below.alloc B9.out B9.out.size _) ?_
      clear hQ'
      refine seqT_zero ?_
      go_wp2_with (have _t := tokA; at_builtin; refine app_new appKid rfl _ _ rfl wn.heap.size v k _ rfl (own_ext HO.out B9.out) ka 268 1 rfl (by rw [KS.out]) KO.out (by decide) (by omega) (Nat.le_trans ON.out.size B9.out.size) ?_; intro g6 cap6 w10 hown10 hgr10 hb10 hbg10; have O10 := Lib.hid hown10; have B10 := Lib.hid hb10; have G10 := Lib.hid hbg10; have Z10 := Lib.hid (show isBlk w10 g4 116 #[.slice Av s.leaf.length cv, v] from (hb10.block g4 GN.out).trans (HX.out.below B9.out)); have k0 := (Z10.out.cell 1).trans rfl; have k1 := Z10.out.frozen 1; clear tokA _t hown10 hgr10 hb10 hbg10)
      refine ⟨rfl, ?_⟩
      go_wp2
      have hkl2 : k < (Sp.nodeT s).2.length := by rw [nodeT_kids, List.length_map]; exact hlt
      have e1 : kidsC ((Sp.nodeT s).2.take (k + 1)) = kidsC ((Sp.nodeT s).2.take k) ++ ka.toList := by
        rw [List.take_succ_eq_append_getElem hkl2, kidsC_snoc, KA.out]
        congr 1
        simp only [nodeT_kids, List.getElem_map, ← XK.out]
      have on10 : Only g4 wn w10 := (ON.out.then_ext (below_lower B9.out ON.out.size)).then_ext B10.out
      refine ⟨⟨k + 1, .slice (some ⟨g6, 0, none⟩) (k + 1) cap6, by omega, by go_num, Z10.out.put 1 _ rfl, ?_, on10.trans (Only.set _ _ _ _)⟩, by simp [intOf]; omega⟩
      rw [e1]
      exact own_far O10.out (fun e => by have e2 : g6 = g4 := Option.some.inj e
                                         have := G10.out; have := GN.out; omega) _
    · obtain rfl : k = s.kids.length := by omega
      obtain ⟨Bk, c3, rfl, hK⟩ := own_read HO.out
      have hne : g2 ≠ g4 := by have := H2.out.lt; have := GG4.out; omega
      have hZn : isBlk wn g2 116 #[.slice none 0 0, .slice none 0 0] := H2.out.below (B5.out.trans BN.out)
      have HZ := Lib.hid (show isBlk wr g2 116 #[.slice none 0 0, .slice none 0 0] from ON.out.blk hZn hne)
      have k0 := (HX.out.cell 0).trans rfl
      have k1 := (HX.out.cell 1).trans rfl
      have k2 := (HZ.out.cell 0).trans rfl
      have k3 := (HZ.out.cell 1).trans rfl
      have k4 := HZ.out.frozen 0
      have k5 := HZ.out.frozen 1
      go_wp2
      have hz := (HZ.out.put 0 (.slice Av s.leaf.length cv) rfl).put 1 (.slice Bk s.kids.length c3) rfl
      refine bodyPost_ret (results_cell_row rfl _ _ g2 116 #[.slice Av s.leaf.length cv, .slice Bk s.kids.length c3] (0, 0) _ rfl hz Tryz.underlying116 rfl (by kernel_rfl)) rfl ?_
      have e1 := (Only.set g2 0 (.slice Av s.leaf.length cv) wr).trans (Only.set g2 1 (.slice Bk s.kids.length c3) _)
      have hs : ∀ z ∈ (#[.slice none 0 0, .slice none 0 0] : Array Value).toList, isSl z = true := by decide
      have hs4 : ∀ z ∈ (#[.slice Av s.leaf.length cv, .slice none 0 0] : Array Value).toList, isSl z = true := by
        intro z hz
        simp at hz
        rcases hz with rfl | rfl <;> rfl
      have nl : (Sp.nodeT s).2.length = s.kids.length := by rw [nodeT_kids, List.length_map]
      rw [List.take_of_length_le (by omega)] at hK
      have KK2 : Kids wr Bk (Sp.nodeT s).2 := ⟨hK, fun y hy => by
        rw [nodeT_kids] at hy
        obtain ⟨u, hu, rfl⟩ := List.mem_map.1 hy
        exact ⟨Sp.nsum_len _, Nat.le_trans (Sp.name_len (Sp.kids_names s.kids (ok_rise HOK.out).2 u hu)) (by decide)⟩⟩
      have VR : Vers wr Av s.leaf := (V2.out.ext (B5.out.trans BN.out)).apart ON.out XN.out hs4
      exact ⟨Av, cv, Bk, c3, rfl, VR.apart e1 HZ.out hs, KK2.apart e1 HZ.out hs, EW.out.from' (e1.below GG2.out EW.out.size)⟩
end Go.Proofs.YtmlfnidckfeebaaGreatDoor
