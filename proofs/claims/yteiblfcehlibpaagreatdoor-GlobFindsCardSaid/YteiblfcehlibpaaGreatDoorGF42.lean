/- Siblings: the winner of a leaf: some version of it, if any is alive. Walks: whether two lists of entries are the same: the document's. Walks: what is seen of entries: the document's. -/
import Derived.Test.YteiblfcehlibpaaGreatDoorGF41
import Derived.Laws.ResultCell
import Derived.Test.YteiblfcehlibpaaGreatDoorGF37
import Derived.Test.YteiblfcehlibpaaGreatDoorGF11
import Derived.Test.YteiblfcehlibpaaGreatDoorGF40
import Derived.Test.YteiblfcehlibpaaGreatDoorGF06
namespace Go.Proofs.YteiblfcehlibpaaGreatDoor
open Go.RowKit Go.Shelf
attribute [local go_sem] yUpon strOf_toList
theorem results_cell_pair {P : Program} {fn : Func} {p u : Tmp} {ty : TypeId} (h : fn.results = #[.cell p ty, .tmp u]) (tmps : Array Value) (w : World) (g : Nat) (t : TypeId) (cs : Array Value) (d : TypeDesc)
    (hp : tmps.getD p undef = .pointer (some ⟨g, 0, none⟩)) (hg : isBlk w g t cs) (hu : P.underlying ty = some d) (hd : (match d with | .struct _ | .array _ _ => true | _ => false) = true) (hi : (P.info? ty).map (·.size) = some cs.size) :
    (results fn tmps).run P w = .ok (.tuple #[.agg cs, tmps.getD u undef]) w := by
  rw [results_cell_tmp h, hp]
  simp only [asAddr, Sem.run_pure, Result.andThen_ok]
  rw [run_loadVar_row w g t ty cs (0, 0) d hg hu hd hi]
  rfl
abbrev verL (A : Option Addr) (c : Nat) (x : Sp.Ver) : Array Value := #[.int .i64 x.dot.1, .int .i64 x.dot.2, .slice A x.past.length c, .bool x.dead, .string (strOf x.data)]
set_option maxRecDepth 100000 in
set_option maxHeartbeats 4000000 in
theorem winner_calls (l : List Sp.Ver) (A : Option Addr) (cap : Nat) (w : World) (h : Vers w A l) (hl : l.length ≤ 1000) :
    Calls Tryz.prog 113 #[.slice A l.length cap] w fun e w' => ∃ A' c' x, e = .returned (.tuple #[.agg (verC A' c' x), .bool (decide (Sp.live l ≠ []))]) ∧ Ext w w' := by
  have LC := Lib.hid fun W (e : Ext w W) => live_calls l A cap W (h.ext e) (by omega)
  have QL : (Sp.live l).length ≤ l.length := List.length_filter_le _ _
  obtain ⟨q, hq⟩ : ∃ q, q = Sp.live l := ⟨_, rfl⟩
  rw [← hq] at LC QL ⊢
  clear hq h
  go_enter Tryz.func113, Tryz.ntmps113
  go_upto_region 1 with fail
  obtain ⟨w0, hw0⟩ : ∃ w0, w0 = w.alloc (.cells #[.int .i64 0, .int .i64 0, .slice none 0 0, .bool false, .string ⟨#[]⟩] 75) := ⟨_, rfl⟩
  have X0 := Lib.hid (show isBlk w0 w.heap.size 75 #[.int .i64 0, .int .i64 0, .slice none 0 0, .bool false, .string ⟨#[]⟩] by rw [hw0]; exact box_at w _ _)
  have E0 := Lib.hid (show Ext w w0 by rw [hw0]; exact Ext.alloc _ _)
  rw [← hw0]
  clear hw0
  go_wp2_with fail
  refine (LC.out w0 E0.out).mono ?_
  rintro e w2 ⟨v2, rfl, hO2, hb2⟩
  obtain ⟨A2, c2, rfl, hV2⟩ := hO2.read
  have V2 := Lib.hid hV2
  have hcap : q.length ≤ c2 := by
    obtain ⟨m, _, h2, _⟩ := hO2
    rcases h2.2 with ⟨h, _⟩ | ⟨g, cap', cur, h, _, _, hn, _⟩
    · simp only [Value.slice.injEq] at h; omega
    · simp only [Value.slice.injEq] at h; omega
  have X2 := Lib.hid (X0.out.below hb2)
  have E2 := Lib.hid (E0.out.trans hb2)
  clear hO2 hV2 hb2 X0 LC
  by_cases h0 : q = []
  · subst h0
    have g0 := X2.out.frozen 0
    have g1 := X2.out.frozen 1
    have g2 := X2.out.frozen 2
    have g3 := X2.out.frozen 3
    have g4 := X2.out.frozen 4
    have e0 := (X2.out.cell 0).trans rfl
    have e1 := (X2.out.cell 1).trans rfl
    have e2 := (X2.out.cell 2).trans rfl
    have e3 := (X2.out.cell 3).trans rfl
    have e4 := (X2.out.cell 4).trans rfl
    rw [List.length_nil]
    go_wp2
    refine bodyPost_ret (results_cell_pair rfl _ _ w.heap.size 75 (verL none 0 ⟨(0, 0), [], false, []⟩) _ rfl (((((X2.out.put 0 _ rfl).put 1 _ rfl).put 2 _ rfl).put 3 _ rfl).put 4 _ rfl) Tryz.underlying75 rfl (by kernel_rfl)) rfl ?_
    exact ⟨none, 0, ⟨(0, 0), [], false, []⟩, rfl, ((((E2.out.setCell (p := ⟨w.heap.size, 0, none⟩) (by simp) _).setCell (p := ⟨w.heap.size, 1, none⟩) (by simp) _).setCell (p := ⟨w.heap.size, 2, none⟩) (by simp) _).setCell (p := ⟨w.heap.size, 3, none⟩) (by simp) _).setCell (p := ⟨w.heap.size, 4, none⟩) (by simp) _⟩
  · obtain ⟨n, hn⟩ : ∃ n, q.length = n + 1 := ⟨q.length - 1, by have := List.length_pos_iff.2 h0; omega⟩
    have dq := Lib.hid (show decide (q ≠ []) = true from decide_eq_true h0)
    obtain ⟨eb, eo, rfl, hc⟩ := V2.out.at (by omega)
    obtain ⟨A3, c3, ⟨c0, c1, c2x, c3x, c4⟩, pst⟩ := hc 0 (by omega)
    simp only [Nat.zero_mul, Nat.add_zero] at c0 c1 c2x c3x c4
    have HC := Lib.hid (show ∀ k, k < n → ∃ A4 c4 x, w2.cell? ⟨eb, eo + 5 + k * 5, none⟩ = some (.int .i64 x.dot.1) ∧ w2.cell? ⟨eb, eo + 5 + k * 5 + 1, none⟩ = some (.int .i64 x.dot.2) ∧ w2.cell? ⟨eb, eo + 5 + k * 5 + 2, none⟩ = some (.slice A4 (x : Sp.Ver).past.length c4) ∧ w2.cell? ⟨eb, eo + 5 + k * 5 + 3, none⟩ = some (.bool x.dead) ∧ w2.cell? ⟨eb, eo + 5 + k * 5 + 4, none⟩ = some (.string (strOf x.data)) from fun k hk => by
      obtain ⟨A4, c4, ⟨d0, d1, d2, d3, d4⟩, _⟩ := hc (k + 1) (by omega)
      rw [show eo + (k + 1) * 5 = eo + 5 + k * 5 by omega] at d0 d1 d2 d3 d4
      exact ⟨A4, c4, _, d0, d1, d2, d3, d4⟩)
    obtain ⟨x0, hx0⟩ : ∃ x0, x0 = q[0]'(by omega) := ⟨_, rfl⟩
    rw [← hx0] at c0 c1 c2x c3x c4
    rw [hn]
    have n1 : ((n : Int) + 1 == 0) = false := by rw [beq_eq_false_iff_ne]; omega
    have nb : (n : Int) ≤ 1000 := by omega
    have w9 : IntKind.i64.wrap ((n : Int) + 1 - 1) = (n : Int) := by rw [IntWalk.i64_in _ (by omega)]; omega
    have hcap2 := Lib.hid (show n + 1 ≤ c2 by omega)
    clear pst hc hx0 h0 hn QL hcap
    go_upto_region 5 with fail
    obtain ⟨w3, hw3⟩ : ∃ w3, w3 = w2.alloc (.cells (verL A3 c3 x0) 75) := ⟨_, rfl⟩
    have X3 := Lib.hid (show isBlk w3 w2.heap.size 75 (verL A3 c3 x0) by rw [hw3]; exact box_at w2 _ _)
    have E3 := Lib.hid (show Ext w2 w3 by rw [hw3]; exact Ext.alloc _ _)
    rw [← hw3]
    have k1 : (1 : Int) ≤ (n : Int) + 1 := by omega
    have k2 : ((n : Int) + 1).toNat = n + 1 := by omega
    have k3 : n + 1 ≤ c2 := hcap2.out
    clear hw3 c0 c1 c2x c3x c4
    go_wp2
    · obtain rfl : n = 0 := by omega
      clear k3 nb n1 w9 k1 k2
      go_loopw [20] (fun v20 wr => ∃ k : Nat, k ≤ 0 ∧ v20 = .int .i64 k ∧ (∃ A4 c4 x, isBlk wr w2.heap.size 75 (verL A4 c4 x)) ∧ Ext w2 wr) (fun v20 _ => 0 - (intOf v20).toNat)
      case atStart => exact ⟨0, Nat.zero_le _, rfl, ⟨_, _, _, X3.out⟩, E3.out⟩
      case round =>
        obtain ⟨k, hk, rfl, hx, hb⟩ := hrel
        obtain rfl : k = 0 := by omega
        obtain ⟨A5, c5, x5, hx5⟩ := hx
        have Y5 := Lib.hid hx5
        have Z5 := Lib.hid (X2.out.below hb)
        have E5 := Lib.hid (E2.out.trans hb)
        have y0 := (Y5.out.cell 0).trans rfl
        have y1 := (Y5.out.cell 1).trans rfl
        have y2 := (Y5.out.cell 2).trans rfl
        have y3 := (Y5.out.cell 3).trans rfl
        have y4 := (Y5.out.cell 4).trans rfl
        have z0 := (Z5.out.cell 0).trans rfl
        have z1 := (Z5.out.cell 1).trans rfl
        have z2 := (Z5.out.cell 2).trans rfl
        have z3 := (Z5.out.cell 3).trans rfl
        have z4 := (Z5.out.cell 4).trans rfl
        have g0 := Z5.out.frozen 0
        have g1 := Z5.out.frozen 1
        have g2 := Z5.out.frozen 2
        have g3 := Z5.out.frozen 3
        have g4 := Z5.out.frozen 4
        clear hx5 hb
        go_wp2
        refine bodyPost_ret (results_cell_pair rfl _ _ w.heap.size 75 (verL A5 c5 x5) _ rfl (((((Z5.out.put 0 _ rfl).put 1 _ rfl).put 2 _ rfl).put 3 _ rfl).put 4 _ rfl) Tryz.underlying75 rfl (by kernel_rfl)) rfl ?_
        refine ⟨A5, c5, x5, ?_, ((((E5.out.setCell (p := ⟨w.heap.size, 0, none⟩) (by simp) _).setCell (p := ⟨w.heap.size, 1, none⟩) (by simp) _).setCell (p := ⟨w.heap.size, 2, none⟩) (by simp) _).setCell (p := ⟨w.heap.size, 3, none⟩) (by simp) _).setCell (p := ⟨w.heap.size, 4, none⟩) (by simp) _⟩
        rw [dq.out]
        rfl
    · clear k3 n1 w9 k1 k2
      go_loopw [20] (fun v20 wr => ∃ k : Nat, k ≤ n ∧ v20 = .int .i64 k ∧ (∃ A4 c4 x, isBlk wr w2.heap.size 75 (verL A4 c4 x)) ∧ Ext w2 wr) (fun v20 _ => n - (intOf v20).toNat)
      case atStart => exact ⟨0, Nat.zero_le _, rfl, ⟨_, _, _, X3.out⟩, E3.out⟩
      case round =>
        obtain ⟨k, hk, rfl, hx, hb⟩ := hrel
        by_cases hlt : k < n
        · obtain ⟨A5, c5, x5, hx5⟩ := hx
          have Y5 := Lib.hid hx5
          have HB := Lib.hid hb
          obtain ⟨A6, c6, x6, d0, d1, d2, d3, d4⟩ := HC.out k hlt
          have d0 := hb.cell d0
          have d1 := hb.cell d1
          have d2 := hb.cell d2
          have d3 := hb.cell d3
          have d4 := hb.cell d4
          have kb : (k : Int) < (n : Int) := by omega
          clear hx5 hb
          go_upto_region 8 with fail
          obtain ⟨w6, hw6⟩ : ∃ w6, w6 = wr.alloc (.cells (verL A6 c6 x6) 75) := ⟨_, rfl⟩
          have X6 := Lib.hid (show isBlk w6 wr.heap.size 75 (verL A6 c6 x6) by rw [hw6]; exact box_at wr _ _)
          have E6 := Lib.hid (show Ext wr w6 by rw [hw6]; exact Ext.alloc _ _)
          have Y6 := Lib.hid (Y5.out.below E6.out)
          rw [← hw6]
          clear hw6 d0 d1 d2 d3 d4
          have f0 := (X6.out.cell 0).trans rfl
          have f1 := (X6.out.cell 1).trans rfl
          have f2 := (X6.out.cell 2).trans rfl
          have f3 := (X6.out.cell 3).trans rfl
          have f4 := (X6.out.cell 4).trans rfl
          have y0 := (Y6.out.cell 0).trans rfl
          have y1 := (Y6.out.cell 1).trans rfl
          have y2 := (Y6.out.cell 2).trans rfl
          have y3 := (Y6.out.cell 3).trans rfl
          have y4 := (Y6.out.cell 4).trans rfl
          go_wp2_with fail
          refine (wins_calls x6 x5 A6 A5 c6 c5 w6).mono ?_
          rintro e w7 ⟨r, rfl, hb7⟩
          have X7 := Lib.hid (X6.out.below hb7)
          have Y7 := Lib.hid (Y6.out.below hb7)
          have E7 := Lib.hid (HB.out.trans (E6.out.trans hb7))
          clear hb7 f0 f1 f2 f3 f4 y0 y1 y2 y3 y4
          have f0 := (X7.out.cell 0).trans rfl
          have f1 := (X7.out.cell 1).trans rfl
          have f2 := (X7.out.cell 2).trans rfl
          have f3 := (X7.out.cell 3).trans rfl
          have f4 := (X7.out.cell 4).trans rfl
          have y0 := (Y7.out.cell 0).trans rfl
          have y1 := (Y7.out.cell 1).trans rfl
          have y2 := (Y7.out.cell 2).trans rfl
          have y3 := (Y7.out.cell 3).trans rfl
          have y4 := (Y7.out.cell 4).trans rfl
          have g0 := Y7.out.frozen 0
          have g1 := Y7.out.frozen 1
          have g2 := Y7.out.frozen 2
          have g3 := Y7.out.frozen 3
          have g4 := Y7.out.frozen 4
          cases r with
          | false =>
            go_wp2
            go_roundw
            case rel => exact ⟨k + 1, by omega, by go_num, ⟨_, _, _, Y7.out⟩, E7.out⟩
            case measure => simp [intOf]; omega
          | true =>
            go_wp2
            go_roundw
            case rel => exact ⟨k + 1, by omega, by go_num, ⟨A6, c6, x6, ((((Y7.out.put 0 _ rfl).put 1 _ rfl).put 2 _ rfl).put 3 _ rfl).put 4 _ rfl⟩, ((((E7.out.setCell (p := ⟨w2.heap.size, 0, none⟩) (by simp) _).setCell (p := ⟨w2.heap.size, 1, none⟩) (by simp) _).setCell (p := ⟨w2.heap.size, 2, none⟩) (by simp) _).setCell (p := ⟨w2.heap.size, 3, none⟩) (by simp) _).setCell (p := ⟨w2.heap.size, 4, none⟩) (by simp) _⟩
            case measure => simp [intOf]; omega
        · obtain rfl : k = n := by omega
          obtain ⟨A5, c5, x5, hx5⟩ := hx
          have Y5 := Lib.hid hx5
          have Z5 := Lib.hid (X2.out.below hb)
          have E5 := Lib.hid (E2.out.trans hb)
          have y0 := (Y5.out.cell 0).trans rfl
          have y1 := (Y5.out.cell 1).trans rfl
          have y2 := (Y5.out.cell 2).trans rfl
          have y3 := (Y5.out.cell 3).trans rfl
          have y4 := (Y5.out.cell 4).trans rfl
          have z0 := (Z5.out.cell 0).trans rfl
          have z1 := (Z5.out.cell 1).trans rfl
          have z2 := (Z5.out.cell 2).trans rfl
          have z3 := (Z5.out.cell 3).trans rfl
          have z4 := (Z5.out.cell 4).trans rfl
          have g0 := Z5.out.frozen 0
          have g1 := Z5.out.frozen 1
          have g2 := Z5.out.frozen 2
          have g3 := Z5.out.frozen 3
          have g4 := Z5.out.frozen 4
          clear hx5 hb
          go_wp2
          refine bodyPost_ret (results_cell_pair rfl _ _ w.heap.size 75 (verL A5 c5 x5) _ rfl (((((Z5.out.put 0 _ rfl).put 1 _ rfl).put 2 _ rfl).put 3 _ rfl).put 4 _ rfl) Tryz.underlying75 rfl (by kernel_rfl)) rfl ?_
          refine ⟨A5, c5, x5, ?_, ((((E5.out.setCell (p := ⟨w.heap.size, 0, none⟩) (by simp) _).setCell (p := ⟨w.heap.size, 1, none⟩) (by simp) _).setCell (p := ⟨w.heap.size, 2, none⟩) (by simp) _).setCell (p := ⟨w.heap.size, 3, none⟩) (by simp) _).setCell (p := ⟨w.heap.size, 4, none⟩) (by simp) _⟩
          rw [dq.out]
          rfl
end Go.Proofs.YteiblfcehlibpaaGreatDoor
namespace Go.Proofs.YteiblfcehlibpaaGreatDoor
open Go.RowKit Go.Shelf
attribute [local go_sem] yUpon strOf_toList
end Go.Proofs.YteiblfcehlibpaaGreatDoor
namespace Go.Proofs.YteiblfcehlibpaaGreatDoor
open Go.RowKit Go.Shelf
attribute [local go_sem] yUpon strOf_toList
set_option maxRecDepth 100000 in
set_option maxHeartbeats 4000000 in
theorem rlive2_calls (l : List Sp.Ver) (A : Option Addr) (cap : Nat) (w0 w : World) (e0 : Ext w0 w) (h : Vers w0 A l) (hl : l.length ≤ 1000000) : Calls Tryz.prog 61 #[.slice A l.length cap] w fun e w' => ∃ (v : Value) (m : List (Option Addr × Nat × Sp.Ver)), e = .returned v ∧ m.map (·.2.2) = Sp.live l ∧ w'.ownsRow w.heap.size 75 5 v (Sp.live l).length (versC m) ∧ (∀ x ∈ m, Past w0 x.1 x.2.2) ∧ Ext w w' := by
  go_enter Tryz.func61, Tryz.ntmps61
  go_wp2
  go_loopw [3, 4] (fun v3 v8 wr => ∃ k : Nat, k ≤ l.length ∧ v8 = .int .i64 k ∧ (∃ m : List (Option Addr × Nat × Sp.Ver), m.map (·.2.2) = Sp.live (l.take k) ∧ wr.ownsRow w.heap.size 75 5 v3 m.length (versC m) ∧ ∀ x ∈ m, Past w0 x.1 x.2.2) ∧ Ext w wr) (fun _ v8 _ => l.length - (intOf v8).toNat)
  case atStart => exact ⟨0, Nat.zero_le _, rfl, ⟨[], rfl, ⟨rfl, .inl ⟨rfl, rfl⟩⟩, fun _ h => by cases h⟩, Ext.refl _⟩
  case round =>
    obtain ⟨k, hk, rfl, ⟨m, hm, hown, hp⟩, hb⟩ := hrel
    by_cases hlt : k < l.length
    · obtain ⟨g, o, rfl, hc0⟩ := h.at (by omega)
      obtain ⟨A', c', hvc, hpast⟩ := hc0 k hlt
      obtain ⟨c0, c1, c2, c3, c4⟩ := hvc.ext (e0.trans hb)
      have HC := Lib.hid hpast
      have HP := Lib.hid hp
      have ml : m.length ≤ k := by
        have := congrArg List.length hm
        rw [List.length_map] at this
        rw [this]
        unfold Sp.live
        exact Nat.le_trans (List.length_filter_le _ _) (List.length_take_le _ _)
      have st : Sp.live (l.take (k + 1)) = Sp.live (l.take k) ++ if l[k].dead then [] else [l[k]] := by
        unfold Sp.live
        rw [List.take_succ_eq_append_getElem hlt, List.filter_append]
        cases hh : l[k].dead <;> simp [hh]
      have HM := Lib.hid hm
      have HO := Lib.hid hown
      clear hm hown hp hvc hpast hc0
      by_cases hd : l[k].dead = true
      · rw [hd] at c3
        rw [if_pos hd, List.append_nil] at st
        have ST := Lib.hid st
        clear st
        go_wp2_with fail
        go_roundw
        case rel => exact ⟨k + 1, by omega, by go_num, ⟨m, by rw [ST.out]; exact HM.out, HO.out, HP.out⟩, hb⟩
        case measure => simp [intOf]; omega
      · have hd' : l[k].dead = false := by simpa using hd
        rw [hd'] at c3
        rw [if_neg hd] at st
        have ST := Lib.hid st
        have HD := Lib.hid hd'
        clear st hd hd'
        go_wp2_with (at_builtin; refine app_new appVer rfl _ _ rfl w.heap.size _ m.length _ rfl (HO.out) #[.int .i64 l[k].dot.1, .int .i64 l[k].dot.2, .slice A' l[k].past.length c', .bool false, .string (strOf l[k].data)] 75 1 rfl rfl (by intro u hu; simp at hu; rcases hu with rfl | rfl | rfl | rfl | rfl <;> rfl) (by decide) (by omega) (hb.size) ?_; intro g6 cap6 w6 hown6 hgr6 hb6 hbg6; have O6 := Lib.hid hown6; have B6 := Lib.hid hb6; clear hown6 hgr6 hb6)
        go_roundw
        case rel =>
          refine ⟨k + 1, by omega, by go_num, ⟨m ++ [(A', c', l[k])], ?_, ?_, ?_⟩, B6.out.from hb⟩
          · rw [List.map_append, HM.out, ST.out]; rfl
          · rw [versC_append, List.length_append]
            have := O6.out
            simpa [versC, HD.out] using this
          · intro x hx
            rcases List.mem_append.1 hx with h1 | h1
            · exact HP.out x h1
            · obtain rfl := List.mem_singleton.1 h1
              exact HC.out
        case measure => simp [intOf]; omega
    · obtain rfl : k = l.length := by omega
      rw [List.take_length] at hm
      have HM := Lib.hid hm
      clear hm
      go_wp2
      go_ret
      refine ⟨_, m, rfl, HM.out, ?_, hp, hb⟩
      rw [← HM.out, List.length_map]
      exact hown
namespace Sp
def shownM (m : List DE) : List DE := m.filterMap fun e => if live e.2 = [] then none else some (e.1, live e.2)
theorem shownM_step (m : List DE) (k : Nat) (h : k < m.length) : shownM (m.take (k + 1)) = shownM (m.take k) ++ if live (m[k]).2 = [] then [] else [((m[k]).1, live (m[k]).2)] := by
  unfold shownM
  rw [List.take_succ_eq_append_getElem h, List.filterMap_append]
  by_cases hl : live (m[k]).2 = [] <;> simp [hl]
theorem shownM_len (m : List DE) : (shownM m).length ≤ m.length := List.length_filterMap_le _ _
end Sp
/-- An entry whose versions were gathered: their vectors were there before. -/
def LiveAt (w wr : World) (x : Option Addr × Nat × Sp.DE) : Prop := ∃ mv : List (Option Addr × Nat × Sp.Ver), mv.map (·.2.2) = x.2.2.2 ∧ wr.ownsRow 0 75 5 (.slice x.1 x.2.2.2.length x.2.1) x.2.2.2.length (versC mv) ∧ ∀ y ∈ mv, Past w y.1 y.2.2
theorem LiveAt.keep {T : TypeId → Prop} (hT : ¬ T 75) {B : Nat} {w wr w' : World} {x : Option Addr × Nat × Sp.DE} (h : LiveAt w wr x) (k : KB T B wr w') : LiveAt w w' x := by
  obtain ⟨mv, h1, h2, h3⟩ := h
  exact ⟨mv, h1, own_keep hT h2 k, h3⟩
theorem LiveAt.vers {w wr : World} {x : Option Addr × Nat × Sp.DE} (h : LiveAt w wr x) (e : Ext w wr) : Vers wr x.1 x.2.2.2 := by
  obtain ⟨mv, h1, h2, h3⟩ := h
  obtain ⟨A, c, e2, hc⟩ := own_read h2
  cases e2
  exact ⟨mv, h1, hc, fun y hy => (h3 y hy).ext e⟩
set_option maxRecDepth 100000 in
set_option maxHeartbeats 4000000 in
theorem rshown_calls (m : List Sp.DE) (A : Option Addr) (cap : Nat) (w : World) (h : EntsAt w A m) (hl : m.length ≤ 1000000) (hs : ∀ e ∈ m, e.2.length ≤ 1000000) :
    Calls Tryz.prog 39 #[.slice A m.length cap] w fun e w' => ∃ B c, e = .returned (.slice B (Sp.shownM m).length c) ∧ EntsAt w' B (Sp.shownM m) ∧ Ext w w' := by
  have HH := Lib.hid h
  have HS := Lib.hid hs
  clear h hs
  go_enter Tryz.func39, Tryz.ntmps39
  go_wp2
  go_loopw [3, 4] (fun v3 v4 wr => ∃ k : Nat, k ≤ m.length ∧ v4 = .int .i64 k ∧ (∃ mo : List (Option Addr × Nat × Sp.DE), mo.map (·.2.2) = Sp.shownM (m.take k) ∧ wr.ownsRow w.heap.size 51 2 v3 mo.length (entsC mo) ∧ ∀ x ∈ mo, LiveAt w wr x) ∧ Ext w wr) (fun _ v4 _ => m.length - (intOf v4).toNat)
  case atStart => exact ⟨0, Nat.zero_le _, rfl, ⟨[], rfl, World.ownsRow_nil _ _ _ _, fun _ h => by cases h⟩, Ext.refl _⟩
  case round =>
    obtain ⟨k, hk, rfl, ⟨mo, hm, hown, hp⟩, hb⟩ := hrel
    by_cases hlt : k < m.length
    · obtain ⟨eb, eo, rfl, he⟩ := HH.out.at (by omega)
      obtain ⟨Av, cv, c0, c1, hv⟩ := he k hlt
      have st := Sp.shownM_step m k hlt
      have hls := HS.out _ (List.getElem_mem hlt)
      obtain ⟨x, hx⟩ : ∃ x, x = m[k] := ⟨_, rfl⟩
      rw [← hx] at c0 c1 hv st hls
      have f0 := hb.cell c0
      have f1 := hb.cell c1
      have ml : mo.length ≤ k := by
        have := congrArg List.length hm
        rw [List.length_map] at this
        rw [this]
        exact Nat.le_trans (Sp.shownM_len _) (List.length_take_le _ _)
      have LV := Lib.hid (rlive2_calls x.2 Av cv w wr hb hv hls)
      have HM := Lib.hid hm
      have HO := Lib.hid hown
      have HP := Lib.hid hp
      have HB := Lib.hid hb
      have ST := Lib.hid st
      have C0 := Lib.hid c0
      have b1 : (k : Int) < (m.length : Int) := by omega
      clear hm hown hp hb st c0 c1 he hv hls hx
      go_wp2_with fail
      refine LV.out.mono ?_
      rintro e w2 ⟨v2, mv, rfl, hmv, hO2, hpv, hb2⟩
      obtain ⟨A2, c2, rfl, _⟩ := own_read hO2
      have O2 := Lib.hid hO2
      have MV := Lib.hid hmv
      have PV := Lib.hid hpv
      have B2 := Lib.hid hb2
      have E2 := Lib.hid (HB.out.trans hb2)
      clear hO2 hmv hpv hb2 f0 f1
      by_cases hl0 : Sp.live x.2 = []
      · have e1 : decide (0 < (Sp.live x.2).length) = false := by rw [hl0]; rfl
        have ST2 := Lib.hid (show Sp.shownM (m.take (k + 1)) = Sp.shownM (m.take k) by rw [ST.out, if_pos hl0, List.append_nil])
        clear hl0
        go_wp2
        go_roundw
        case rel => exact ⟨k + 1, by omega, by go_num, ⟨mo, by rw [ST2.out]; exact HM.out, own_ext HO.out B2.out, fun y hy => (HP.out y hy).keep (T := noT) (fun h => h) (KB.ext HB.out.size B2.out)⟩, E2.out⟩
        case measure => simp [intOf]; omega
      · have e1 : decide (0 < (Sp.live x.2).length) = true := decide_eq_true (List.length_pos_iff.2 hl0)
        have ST2 := Lib.hid (show Sp.shownM (m.take (k + 1)) = Sp.shownM (m.take k) ++ [(x.1, Sp.live x.2)] by rw [ST.out, if_neg hl0])
        have f0 := E2.out.cell C0.out
        clear hl0
        go_wp2_with (at_builtin; refine app_new appEnt rfl _ _ rfl w.heap.size _ mo.length _ rfl (own_ext HO.out B2.out) #[.string (strOf x.1), .slice A2 (Sp.live x.2).length c2] 51 1 rfl rfl (by intro u hu; simp at hu; rcases hu with rfl | rfl <;> rfl) (by decide) (by omega) (E2.out.size) ?_; intro g6 cap6 w6 hown6 hgr6 hb6 hbg6; have O6 := Lib.hid hown6; have G6 := Lib.hid hgr6; have B6 := Lib.hid hb6; clear hown6 hgr6 hb6 hbg6)
        have KG := Lib.hid (show KB (fun t => t = 51) w.heap.size w2 w6 from KB.grown (own_ext HO.out B2.out) rfl G6.out B6.out)
        go_roundw
        case rel =>
          refine ⟨k + 1, by omega, by go_num, ⟨mo ++ [(A2, c2, (x.1, Sp.live x.2))], ?_, ?_, fun y hy => ?_⟩, Below.trans E2.out B6.out⟩
          · rw [List.map_append, HM.out, ST2.out]; rfl
          · rw [entsC_snoc, List.length_append]
            exact O6.out
          · rcases List.mem_append.1 hy with h1 | h1
            · exact ((HP.out y h1).keep (T := noT) (fun h => h) (KB.ext HB.out.size B2.out)).keep (by intro h; cases h) KG.out
            · obtain rfl := List.mem_singleton.1 h1
              exact LiveAt.keep (T := fun t => t = 51) (by intro h; cases h) ⟨mv, MV.out, own_lowT O2.out (Nat.zero_le _), PV.out⟩ KG.out
        case measure => simp [intOf]; omega
    · obtain rfl : k = m.length := by omega
      rw [List.take_length] at hm
      have hlen : mo.length = (Sp.shownM m).length := by rw [← hm, List.length_map]
      rw [hlen] at hown
      obtain ⟨B, c, rfl, hc⟩ := own_read hown
      have HE := Lib.hid (show EntsAt wr B (Sp.shownM m) from ⟨mo, hm, hc, fun y hy => (hp y hy).vers hb⟩)
      have HB := Lib.hid hb
      clear hm hown hp hb hc hlen
      go_wp2
      go_ret
      exact ⟨B, c, rfl, HE.out, HB.out⟩
end Go.Proofs.YteiblfcehlibpaaGreatDoor
