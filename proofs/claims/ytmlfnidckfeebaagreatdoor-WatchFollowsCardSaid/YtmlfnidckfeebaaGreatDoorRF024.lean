/- Walks: whether two unlike texts have one digest, by the document. Who notes what a watcher tells has the files: plain. Deltas: have two unlike nodes of two trees one digest? All that differ, counted. Watching: what is seen of a leaf; a change. -/
import Derived.Test.YtmlfnidckfeebaaGreatDoorRF023
namespace Go.Proofs.YtmlfnidckfeebaaGreatDoor
open Go.RowKit Go.Shelf
attribute [local go_sem] yUpon strOf_toList
theorem appDig : AppStat Tryz.prog 203 36 32 32 := by
  refine ⟨Tryz.underlying203, by decide, by decide, ?_⟩
  obtain ⟨i0, hi, hz0, hz1, hz2⟩ := info_parts (show (Tryz.prog.info? 36).map (fun i => (i.zero, i.size, i.bytes)) = some (some (.agg (digC (List.replicate 32 0))), 32, 32) by kernel_rfl)
  exact ⟨i0, _, hi, hz0, hz1, hz2, by simp [digC, Value.cells]⟩
def digsC : List Sp.Bs → List Value
  | [] => []
  | x :: r => (Sp.sha x).map byteV ++ digsC r
theorem digsC_snoc (l : List Sp.Bs) (x : Sp.Bs) : digsC (l ++ [x]) = digsC l ++ (Sp.sha x).map byteV := by
  induction l with
  | nil => simp [digsC]
  | cons y r ih => rw [List.cons_append, digsC, ih, digsC, List.append_assoc]
theorem digsC_len : ∀ l, (digsC l).length = l.length * 32
  | [] => rfl
  | x :: r => by rw [digsC, List.length_append, List.length_map, Sp.sha_len, digsC_len r, List.length_cons]; omega
theorem digsC_get : ∀ (l : List Sp.Bs) (k j : Nat) (h : k < l.length) (v : Value), ((Sp.sha l[k]).map byteV)[j]? = some v → (digsC l)[k * 32 + j]? = some v
  | x :: r, 0, j, h, v, hv => by
    have hj : j < ((Sp.sha x).map byteV).length := (List.getElem?_eq_some_iff.1 hv).1
    rw [digsC, Nat.zero_mul, Nat.zero_add, List.getElem?_append_left hj]
    exact hv
  | x :: r, k + 1, j, h, v, hv => by
    rw [digsC, List.getElem?_append_right (by rw [List.length_map, Sp.sha_len]; omega), List.length_map, Sp.sha_len, show (k + 1) * 32 + j - 32 = k * 32 + j by omega]
    exact digsC_get r k j (by simpa using h) v hv
namespace Sp
mutual
theorem texts_short : ∀ t : T, Ok t → sizeT t ≤ 128 → ∀ x ∈ textsT t, x.length ≤ 4000000000
  | .mk lf k, h, hs, x, hx => by
    rw [textsT] at hx
    rcases List.mem_cons.1 hx with rfl | hx
    · refine nbytes_len _ (fun y hy => ?_) (node_writes _ h hs)
      rw [nodeT] at hy
      refine ⟨kidsT_32 k y hy, ?_⟩
      rw [kidsT_eq] at hy
      obtain ⟨z, hz, rfl⟩ := List.mem_map.1 hy
      exact Nat.le_trans (name_len (okL_names k h.2.2 z hz).1) (by decide)
    · rw [sizeT] at hs
      exact textsL_short k h.2.2 (by omega) x hx
theorem textsL_short : ∀ k : List (Bs × T), OkL k → sizeL k ≤ 128 → ∀ x ∈ textsL k, x.length ≤ 4000000000
  | [], _, _, x, hx => by rw [textsL] at hx; cases hx
  | (n, t) :: r, h, hs, x, hx => by
    rw [textsL] at hx
    rw [sizeL] at hs
    rcases List.mem_append.1 hx with hx | hx
    · exact texts_short t h.2.2.1 (by omega) x hx
    · exact textsL_short r h.2.2.2 (by omega) x hx
end
def clashAt (l : List Bs) (k i : Nat) : Prop := sha (l.getD k []) = sha (l.getD i []) ∧ l.getD k [] ≠ l.getD i []
theorem clash_some {l : List Bs} (h : clashS l = true) : ∃ i k, i < l.length ∧ k < i ∧ clashAt l k i := by
  unfold clashS at h
  obtain ⟨i, hi, h2⟩ := List.any_eq_true.1 h
  obtain ⟨k, hk, h3⟩ := List.any_eq_true.1 h2
  simp only [Bool.and_eq_true, decide_eq_true_eq] at h3
  exact ⟨i, k, List.mem_range.1 hi, List.mem_range.1 hk, h3⟩
end Sp
set_option maxRecDepth 100000 in
set_option maxHeartbeats 4000000 in
theorem rclash_any (l : List Sp.Bs) (A : Option Addr) (cap : Nat) (w : World) (h : Nams w A l) (hl : l.length ≤ 2000) (hs : ∀ x ∈ l, x.length ≤ 4000000000) (K : KeysAt w 0) :
    Calls Tryz.prog 81 #[.slice A l.length cap] w fun e w' => ∃ b, e = .returned (.bool b) ∧ (Sp.clashS l = true → b = true) ∧ Ext w w' := by
  have HH := Lib.hid h
  have HS := Lib.hid hs
  have KK := Lib.hid K
  have CS := Lib.hid fun hc => Sp.clash_some (l := l) hc
  clear h hs K
  go_enter Tryz.func81, Tryz.ntmps81
  go_wp2
  go_loopw [3, 4] (fun v3 v4 wr => ∃ i : Nat, i ≤ l.length ∧ v4 = .int .i64 i ∧ wr.ownsRow w.heap.size 36 32 v3 i (digsC (l.take i)) ∧ (∀ i' k', i' < i → k' < i' → ¬ Sp.clashAt l k' i') ∧ Ext w wr) (fun _ v4 _ => l.length - (intOf v4).toNat)
  case atStart => exact ⟨0, Nat.zero_le _, rfl, World.ownsRow_nil _ _ _ _, fun i' k' h => absurd h (Nat.not_lt_zero _), Ext.refl _⟩
  case round =>
    obtain ⟨i, hi, rfl, hO, hN, hb⟩ := hrel
    have HB := Lib.hid hb
    have HO := Lib.hid hO
    have HN := Lib.hid hN
    by_cases hlt : i < l.length
    · obtain ⟨sb, so, rfl, hst⟩ := HH.out.at (by omega)
      have C := Lib.hid (show ∀ k (h : k < l.length) W, Ext w W → W.cell? ⟨sb, so + k, none⟩ = some (.string (strOf l[k])) from fun k h W e => e.cell (hst k h))
      have s0 := C.out i hlt wr HB.out
      have XL := HS.out _ (List.getElem_mem hlt)
      have SC := Lib.hid (rsha_calls l[i] wr XL (KK.out.ext HB.out))
      have TT := Lib.hid (show l.take (i + 1) = l.take i ++ [l[i]] from List.take_succ_eq_append_getElem hlt)
      have XD := Lib.hid (show l.getD i [] = l[i] by rw [List.getD_eq_getElem?_getD, List.getElem?_eq_getElem hlt]; rfl)
      obtain ⟨x, hx⟩ : ∃ x, x = l[i] := ⟨_, rfl⟩
      rw [← hx] at s0 SC TT XD
      have ib : (i : Int) < (l.length : Int) := by omega
      clear hO hN hb hst XL hx
      go_wp2_with fail
      refine SC.out.mono ?_
      rintro e w5 ⟨rfl, hb5⟩
      have E5 := Lib.hid hb5
      have B5 := Lib.hid (HB.out.trans hb5)
      clear hb5 s0
      have tok : True := trivial
      have tokA : True := trivial
      go_upto_region 6 with (first
        | (have _t := tok; (with_reducible refine at_bslice rfl ?_); refine bslice_new rfl 203 36 _ rfl appDig (by decide) (digC (Sp.sha x)) rfl (by simp [digC, Sp.sha_len]) ?_; intro gv wv hgv hxv hbv; have XV := Lib.hid hxv; have BV := Lib.hid (B5.out.trans hbv); have EV := Lib.hid (E5.out.trans hbv); clear tok _t hgv hxv hbv)
        | (have _t := tokA; at_builtin; refine app_cells appDig rfl _ _ rfl w.heap.size _ i _ rfl (own_ext HO.out EV.out) (some ⟨gv, 0, none⟩) 1 1 ((Sp.sha x).map byteV) rfl (by rw [List.length_map, Sp.sha_len]) (fun _ => ⟨gv, 0, rfl, fun j u hj => by rw [Nat.zero_add, XV.out.cell j]; simpa [digC] using hj⟩) (by intro u hu; obtain ⟨b, _, rfl⟩ := List.mem_map.1 hu; rfl) (by omega) BV.out.size ?_; intro v7 w7 hown7 hgr7 hb7; have O7 := Lib.hid hown7; have B7 := Lib.hid (show Ext w w7 from Below.trans BV.out hb7); clear tokA _t hown7 hgr7 hb7))
      have O8 := Lib.hid (show w7.ownsRow w.heap.size 36 32 v7 (i + 1) (digsC (l.take (i + 1))) by rw [TT.out, digsC_snoc]; exact O7.out)
      obtain ⟨A8, c8, rfl, hc8⟩ := own_read O8.out
      obtain ⟨gd, od, rfl, hcd⟩ := hc8 (by intro e; have := digsC_len (l.take (i + 1)); rw [e, List.length_take] at this; simp at this; omega)
      have DG := Lib.hid (show ∀ k (h : k < i + 1) W, Ext w7 W → W.rangeAt gd (od + k * 32) ((Sp.sha (l.getD k [])).map byteV) from fun k h W e j u hu => by
        have hk : k < (l.take (i + 1)).length := by rw [List.length_take]; omega
        have h1 := digsC_get (l.take (i + 1)) k j hk u (by
          rw [List.getElem_take]
          rw [List.getD_eq_getElem?_getD, List.getElem?_eq_getElem (show k < l.length by omega)] at hu
          exact hu)
        rw [Nat.add_assoc]
        exact e.cell (hcd _ _ h1))
      clear hc8 hcd SC O7 HO
      go_wp2
      go_loopw [5] (fun v5 wr => ∃ k : Nat, k ≤ i ∧ v5 = .int .i64 k ∧ (∀ k', k' < k → ¬ Sp.clashAt l k' i) ∧ Ext w7 wr) (fun v5 _ => i - (intOf v5).toNat)
      case atStart => exact ⟨0, Nat.zero_le _, rfl, fun k' h => absurd h (Nat.not_lt_zero _), Ext.refl _⟩
      case round =>
        obtain ⟨k, hk, rfl, hNk, hbk⟩ := hrel
        have HBK := Lib.hid hbk
        have HNK := Lib.hid hNk
        by_cases hlk : k < i
        · have kl : k < l.length := by omega
          have YD := Lib.hid (show l.getD k [] = l[k] by rw [List.getD_eq_getElem?_getD, List.getElem?_eq_getElem kl]; rfl)
          have R1 := Lib.hid fun W (e : Ext wr W) => DG.out k (by omega) W (HBK.out.trans e)
          have R2 := Lib.hid fun W (e : Ext wr W) => DG.out i (by omega) W (HBK.out.trans e)
          rw [YD.out] at R1
          rw [XD.out] at R2
          have CL := Lib.hid (show Sp.clashAt l k i ↔ Sp.sha l[k] = Sp.sha x ∧ l[k] ≠ x by unfold Sp.clashAt; rw [YD.out, XD.out])
          have S1 := Lib.hid fun W (e : Ext wr W) => C.out k kl W (B7.out.trans (HBK.out.trans e))
          have S2 := Lib.hid fun W (e : Ext wr W) => C.out i hlt W (B7.out.trans (HBK.out.trans e))
          rw [show l[i] = x by rw [← XD.out, List.getD_eq_getElem?_getD, List.getElem?_eq_getElem hlt]; rfl] at S2
          obtain ⟨y, hy⟩ : ∃ y, y = l[k] := ⟨_, rfl⟩
          rw [← hy] at R1 S1 CL
          have hq := fun W => dig_eqv (Sp.sha y) (Sp.sha x) (Sp.sha_len _) (Sp.sha_len _) W
          have hg := dig_guard
          obtain ⟨q, hqq⟩ : ∃ q, q = (Sp.sha y == Sp.sha x) := ⟨_, rfl⟩
          rw [← hqq] at hq
          have Q1 := Lib.hid hqq
          obtain ⟨ds, hds⟩ : ∃ ds, ds = (Sp.sha y).map byteV := ⟨_, rfl⟩
          obtain ⟨dt, hdt⟩ : ∃ dt, dt = (Sp.sha x).map byteV := ⟨_, rfl⟩
          rw [← hds] at R1
          rw [← hdt] at R2
          have DL := Lib.hid (show ds.length = 32 by rw [hds, List.length_map, Sp.sha_len])
          have DM := Lib.hid (show dt.length = 32 by rw [hdt, List.length_map, Sp.sha_len])
          rw [show digC (Sp.sha y) = ds.toArray by rw [hds]; rfl, show digC (Sp.sha x) = dt.toArray by rw [hdt]; rfl] at hq
          have kb : (k : Int) < (i : Int) := by omega
          have kl2 : (k : Int) < (l.length : Int) := by omega
          have ki2 : (k : Int) < (i : Int) + 1 := by omega
          have ki3 : (i : Int) < (i : Int) + 1 := by omega
          have ki4 : i < i + 1 := Nat.lt_succ_self i
          have ki5 : (0 : Int) ≤ (i : Int) := by omega
          clear hNk hbk hy hqq hds hdt
          cases q with
          | true =>
            have Q2 := Lib.hid (show Sp.sha y = Sp.sha x from beq_iff_eq.1 Q1.out.symm)
            go_wp2_with fail
            refine wp_region_det (fun W => Ext wr W) (by kernel_rfl) (by kernel_rfl) (Ext.refl wr).drew ?_
            repeat (first
              | (refine det_step (fun K hK => ?_); (first | (refine det_load_mid rfl 36 (.tmp 27) rfl gd (od + k * 32) rfl ds _ (fun W hS => R1.out W hS) Tryz.underlying36 rfl (by rw [DL.out]; kernel_rfl) ?_) | (refine det_load_mid rfl 36 (.tmp 31) rfl gd (od + i * 32) rfl dt _ (fun W hS => R2.out W hS) Tryz.underlying36 rfl (by rw [DM.out]; kernel_rfl) ?_)); go_simp; refine hK _ ?_; clear hK K)
              | (refine det_step (fun K hK => ?_)
                 apply Exists.intro
                 refine ⟨Or.inl ⟨rfl, fun W hS => ?_⟩, ?_⟩
                 · have hz : Ext wr W := hS; have s1 := S1.out W hz; have s2 := S2.out W hz
                   go_simp
                   first
                   | exact rfl
                   | exact ⟨rfl, hS⟩
                   | (fail)
                 go_simp
                 refine hK _ ?_
                 clear hK K)
              | (refine det_step (fun K hK => ?_); refine det_no' rfl ?_; go_simp; refine hK _ ?_; clear hK K))
            refine det_nil ?_
            intro W9 hS
            replace hS : Ext wr W9 := hS
            have B9 := Lib.hid (HBK.out.trans hS)
            clear hS
            go_wp2_with fail
            · go_ret
              exact ⟨true, rfl, fun _ => rfl, B7.out.trans B9.out⟩
            · have heq : y = x := by
                have h : (!(y == x)) = false := by assumption
                have : (y == x) = true := by
                  revert h
                  cases (y == x) <;> simp
                exact beq_iff_eq.1 this
              refine ⟨⟨k + 1, by omega, by go_num, fun k' hk' => ?_, B9.out⟩, by simp [intOf]; omega⟩
              rcases Nat.lt_or_ge k' k with h | h
              · exact HNK.out k' h
              · obtain rfl : k' = k := by omega
                rw [CL.out]
                exact fun h => h.2 heq
          | false =>
            have Q2 := Lib.hid (show Sp.sha y ≠ Sp.sha x from fun e => by have := Q1.out; rw [e, beq_self_eq_true] at this; cases this)
            go_wp2_with fail
            refine wp_region_det (fun W => Ext wr W) (by kernel_rfl) (by kernel_rfl) (Ext.refl wr).drew ?_
            repeat (first
              | (refine det_step (fun K hK => ?_); (first | (refine det_load_mid rfl 36 (.tmp 27) rfl gd (od + k * 32) rfl ds _ (fun W hS => R1.out W hS) Tryz.underlying36 rfl (by rw [DL.out]; kernel_rfl) ?_) | (refine det_load_mid rfl 36 (.tmp 31) rfl gd (od + i * 32) rfl dt _ (fun W hS => R2.out W hS) Tryz.underlying36 rfl (by rw [DM.out]; kernel_rfl) ?_)); go_simp; refine hK _ ?_; clear hK K)
              | (refine det_step (fun K hK => ?_)
                 apply Exists.intro
                 refine ⟨Or.inl ⟨rfl, fun W hS => ?_⟩, ?_⟩
                 · have hz : Ext wr W := hS; have s1 := S1.out W hz; have s2 := S2.out W hz
                   go_simp
                   first
                   | exact rfl
                   | exact ⟨rfl, hS⟩
                   | (fail)
                 go_simp
                 refine hK _ ?_
                 clear hK K)
              | (refine det_step (fun K hK => ?_); refine det_no' rfl ?_; go_simp; refine hK _ ?_; clear hK K))
            refine det_nil ?_
            intro W9 hS
            replace hS : Ext wr W9 := hS
            have B9 := Lib.hid (HBK.out.trans hS)
            clear hS
            go_wp2
            go_roundw
            case rel =>
              refine ⟨k + 1, by omega, by go_num, fun k' hk' => ?_, B9.out⟩
              rcases Nat.lt_or_ge k' k with h | h
              · exact HNK.out k' h
              · obtain rfl : k' = k := by omega
                rw [CL.out]
                exact fun h => Q2.out h.1
            case measure => simp [intOf]; omega
        · obtain rfl : k = i := by omega
          have O9 := Lib.hid (own_ext O8.out hbk)
          have B9 := Lib.hid (B7.out.trans hbk)
          clear hNk hbk
          go_wp2
          go_roundw
          case rel =>
            refine ⟨k + 1, by omega, by go_num, O9.out, fun i' k' h1 h2 => ?_, B9.out⟩
            rcases Nat.lt_or_ge i' k with h | h
            · exact HN.out i' k' h h2
            · obtain rfl : i' = k := by omega
              exact HNK.out k' h2
          case measure => simp [intOf]; omega
    · obtain rfl : i = l.length := by omega
      have NC := Lib.hid (show ¬ Sp.clashS l = true from fun hc => by
        obtain ⟨i', k', h1, h2, h3⟩ := CS.out hc
        exact hN i' k' (by omega) h2 h3)
      clear hO hN hb HO HN
      go_wp2
      go_ret
      exact ⟨false, rfl, fun hc => absurd hc NC.out, HB.out⟩
end Go.Proofs.YtmlfnidckfeebaaGreatDoor
namespace Go.Proofs.YtmlfnidckfeebaaGreatDoor
open Go.RowKit
namespace Sp
abbrev Fl := Bs × Bs
def noteS (files : List Fl) (c : Chg) : List Fl := files.filter (fun f => !decide (f.1 = c.path)) ++ if c.kind = 2 then [] else [(c.path, c.now)]
def seenS (l : List Ver) : Option Bs := if live l = [] then none else some (data0 l)
def Holds (files : List Fl) (F : Bs → Option Bs) : Prop := (files.Pairwise fun a b => a.1 ≠ b.1) ∧ ∀ f : Fl, f ∈ files ↔ F f.1 = some f.2
theorem note_holds {files : List Fl} {F : Bs → Option Bs} (h : Holds files F) (c : Chg) : Holds (noteS files c) fun p => if p = c.path then (if c.kind = 2 then none else some c.now) else F p := by
  obtain ⟨h1, h2⟩ := h
  refine ⟨?_, fun f => ?_⟩
  · unfold noteS
    refine List.pairwise_append.2 ⟨h1.filter _, by split <;> simp, fun a ha b hb => ?_⟩
    have := (List.mem_filter.1 ha).2
    split at hb
    · cases hb
    · rw [List.mem_singleton.1 hb]
      simpa using this
  · unfold noteS
    rw [List.mem_append, List.mem_filter, h2 f]
    by_cases hp : f.1 = c.path
    · by_cases hk : c.kind = 2
      · simp [hp, hk]
      · simp only [hp, hk, if_false, if_true, decide_true, Bool.not_true, Bool.false_eq_true, and_false, false_or, List.mem_singleton, Option.some.injEq]
        constructor
        · rintro h; rw [h]
        · rintro h; rw [← hp, h]
    · by_cases hk : c.kind = 2
      · simp [hp, hk]
      · have : f ≠ (c.path, c.now) := fun e => hp (by rw [e])
        simp [hp, hk, this]
theorem seen_kind {x y : List Ver} (h : kindS x y = 0) : seenS x = seenS y := by
  unfold kindS at h
  unfold seenS
  by_cases hx : live x = [] <;> by_cases hy : live y = []
  · simp [hx, hy]
  · simp [hx, hy] at h
  · simp [hx, hy] at h
  · by_cases hd : data0 x = data0 y
    · simp [hx, hy, hd]
    · simp [hx, hy, hd] at h
theorem kind_two {x y : List Ver} (h : kindS x y ≠ 0) : (if kindS x y = 2 then none else some (data0 y)) = seenS y := by
  unfold kindS at *
  unfold seenS
  by_cases hx : live x = [] <;> by_cases hy : live y = []
  · have dx : data0 x = [] := by unfold data0 winner; rw [hx]; rfl
    have dy : data0 y = [] := by unfold data0 winner; rw [hy]; rfl
    simp [hx, hy, dx, dy] at h
  · simp [hx, hy]
  · simp [hx, hy]
  · by_cases hd : data0 x = data0 y
    · by_cases hn : (live x).length = (live y).length
      · simp [hx, hy, hd, hn] at h
      · simp [hx, hy, hd, hn]
    · simp [hx, hy, hd]
theorem fold_holds : ∀ (l : List Bs) (f g : Bs → List Ver) (files : List Fl) (F : Bs → Option Bs), l.Pairwise (· ≠ ·) → Holds files F → (∀ p ∈ l, F p = seenS (f p)) →
    Holds ((betweenL l f g).foldl noteS files) fun p => if p ∈ l then seenS (g p) else F p
  | [], f, g, files, F, _, h, _ => by
    have : (fun p => if p ∈ ([] : List Bs) then seenS (g p) else F p) = F := by funext p; simp
    rw [this]
    exact h
  | p :: r, f, g, files, F, hp, h, hF => by
    obtain ⟨h1, h2⟩ := List.pairwise_cons.1 hp
    have hFp := hF p (List.mem_cons_self ..)
    have e0 : betweenL (p :: r) f g = (match changeS p (f p) (g p) with | none => [] | some c => [c]) ++ betweenL r f g := by
      unfold betweenL
      rw [List.filterMap_cons]
      cases changeS p (f p) (g p) <;> rfl
    rw [e0]
    by_cases hk : kindS (f p) (g p) = 0
    · have e1 : changeS p (f p) (g p) = none := by unfold changeS; rw [if_pos hk]
      rw [e1]
      have := fold_holds r f g files F h2 h fun q hq => hF q (List.mem_cons_of_mem _ hq)
      have e2 : (fun q => if q ∈ p :: r then seenS (g q) else F q) = fun q => if q ∈ r then seenS (g q) else F q := by
        funext q
        by_cases hq : q ∈ r
        · rw [if_pos hq, if_pos (List.mem_cons_of_mem _ hq)]
        · by_cases hqp : q = p
          · rw [hqp, if_pos (List.mem_cons_self ..), if_neg (by rw [← hqp]; exact hq), hFp, seen_kind hk]
          · rw [if_neg hq, if_neg (by simp [hqp, hq])]
      rw [e2]
      exact this
    · obtain ⟨c, hc⟩ : ∃ c : Chg, c = ⟨p, kindS (f p) (g p), data0 (f p), data0 (g p)⟩ := ⟨_, rfl⟩
      have e1 : changeS p (f p) (g p) = some c := by unfold changeS; rw [if_neg hk, hc]
      rw [e1]
      show Holds ((betweenL r f g).foldl noteS (noteS files c)) _
      have hn := note_holds h c
      have c1 : c.path = p := by rw [hc]
      have c2 : (if c.kind = 2 then none else some c.now) = seenS (g p) := by rw [hc]; exact kind_two hk
      have := fold_holds r f g (noteS files c) _ h2 hn fun q hq => by
        have hne : q ≠ p := fun e => h1 q hq e.symm
        simp only [c1, hne, if_false]
        exact hF q (List.mem_cons_of_mem _ hq)
      have e2 : (fun q => if q ∈ p :: r then seenS (g q) else F q) = fun q => if q ∈ r then seenS (g q) else if q = c.path then (if c.kind = 2 then none else some c.now) else F q := by
        funext q
        by_cases hq : q ∈ r
        · rw [if_pos hq, if_pos (List.mem_cons_of_mem _ hq)]
        · by_cases hqp : q = p
          · rw [hqp, if_pos (List.mem_cons_self ..), if_neg (by rw [← hqp]; exact hq), if_pos c1.symm, c2]
          · rw [if_neg hq, if_neg (by simp [hqp, hq]), if_neg (by rw [c1]; exact hqp)]
      rw [e2]
      exact this
theorem differ_ne {oa ob : Option T} {ma mb : List DE} (PA : Both oa ma) (PB : Both ob mb) : (differT (oa.getD .nil) (ob.getD .nil)).Pairwise (· ≠ ·) := by
  refine (differ_rise PA PB).imp fun {x y} h e => ?_
  rw [e] at h
  unfold compare at h
  rw [cmpP_self] at h
  cases h
theorem follow_step {oa ob : Option T} {ma mb : List DE} (PA : Both oa ma) (PB : Both ob mb) (hc : ∀ x ∈ textsT (oa.getD .nil), ∀ y ∈ textsT (ob.getD .nil), sha x = sha y → x = y) {files : List Fl} (h : Holds files fun p => seenS (rget ma p)) :
    Holds ((betweenS (oa.getD .nil) (ob.getD .nil)).foldl noteS files) fun p => seenS (rget mb p) := by
  rw [← between_both PA PB]
  have := fold_holds (differT (oa.getD .nil) (ob.getD .nil)) (rget ma) (rget mb) files _ (differ_ne PA PB) h fun p _ => rfl
  have e : (fun p => if p ∈ differT (oa.getD .nil) (ob.getD .nil) then seenS (rget mb p) else seenS (rget ma p)) = fun p => seenS (rget mb p) := by
    funext p
    by_cases hp : p ∈ differT (oa.getD .nil) (ob.getD .nil)
    · rw [if_pos hp]
    · rw [if_neg hp]
      rw [differ_mem PA PB hc] at hp
      by_cases h0 : check p = 0
      · have : rget ma p = rget mb p := Decidable.byContradiction fun h2 => hp ⟨h0, h2⟩
        rw [this]
      · rw [rget_bad PA.gm.1 h0, rget_bad PB.gm.1 h0]
  rw [e] at this
  exact this
theorem both_none : Both none [] := ⟨good_none, goodM_nil, rfl⟩
theorem holds_nil : Holds [] fun p => seenS (rget [] p) := ⟨List.Pairwise.nil, fun f => by simp [seenS, rget, live]⟩
theorem rget_at {m : List DE} (h : m.Pairwise fun a b => a.1 ≠ b.1) {e : DE} (he : e ∈ m) : rget m e.1 = e.2 := by
  induction m with
  | nil => cases he
  | cons x r ih =>
    obtain ⟨h1, h2⟩ := List.pairwise_cons.1 h
    rw [rget]
    rcases List.mem_cons.1 he with rfl | he
    · rw [if_pos rfl]
    · rw [if_neg (h1 e he)]; exact ih h2 he
theorem nodup_len {α : Type} [DecidableEq α] : ∀ (a b : List α), a.Pairwise (· ≠ ·) → b.Pairwise (· ≠ ·) → (∀ x, x ∈ a ↔ x ∈ b) → a.length = b.length
  | [], [], _, _, _ => rfl
  | [], y :: s, _, _, h => absurd ((h y).2 (List.mem_cons_self ..)) (by simp)
  | x :: r, b, ha, hb, h => by
    obtain ⟨a1, a2⟩ := List.pairwise_cons.1 ha
    have hx : x ∈ b := (h x).1 (List.mem_cons_self ..)
    obtain ⟨p, q, rfl⟩ := List.append_of_mem hx
    obtain ⟨b1, b2, b3⟩ := List.pairwise_append.1 hb
    obtain ⟨b4, b5⟩ := List.pairwise_cons.1 b2
    have := nodup_len r (p ++ q) a2 (List.pairwise_append.2 ⟨b1, b5, fun u hu v hv => b3 u hu v (List.mem_cons_of_mem _ hv)⟩) fun z => by
      have hz := h z
      rw [List.mem_cons, List.mem_append, List.mem_cons] at hz
      rw [List.mem_append]
      constructor
      · intro hzr
        rcases hz.1 (.inr hzr) with h1 | h1 | h1
        · exact .inl h1
        · exact absurd h1.symm (a1 z hzr)
        · exact .inr h1
      · intro hpq
        have hne : z ≠ x := by
          rintro rfl
          rcases hpq with h1 | h1
          · exact b3 z h1 z (List.mem_cons_self ..) rfl
          · exact b4 z h1 rfl
        rcases hz.2 (hpq.imp id .inr) with h1 | h1
        · exact absurd h1 hne
        · exact h1
    rw [List.length_cons, this]
    simp
    omega
theorem holds_shown {o : Option T} {m : List DE} (P : Both o m) {files : List Fl} (h : Holds files fun p => seenS (rget m p)) : files.length = (shownM m).length ∧ ∀ f ∈ files, check f.1 = 0 ∧ winner (rget m f.1) ≠ none ∧ data0 (rget m f.1) = f.2 := by
  have hmem : ∀ f ∈ files, live (rget m f.1) ≠ [] ∧ data0 (rget m f.1) = f.2 := fun f hf => by
    have : seenS (rget m f.1) = some f.2 := (h.2 f).1 hf
    unfold seenS at this
    by_cases hl : live (rget m f.1) = []
    · rw [if_pos hl] at this; cases this
    · rw [if_neg hl] at this
      exact ⟨hl, Option.some.inj this⟩
  have hs : (shownM m).Pairwise fun a b => a.1 ≠ b.1 := by
    obtain ⟨_, h2, _, h4⟩ := shown_both P.eq P.go P.gm
    exact rise_ne (by rw [h4]; exact entries_rise _ h2)
  refine ⟨?_, fun f hf => ?_⟩
  · have := nodup_len (files.map (·.1)) ((shownM m).map (·.1)) (List.pairwise_map.2 h.1) (List.pairwise_map.2 hs) fun p => by
      constructor
      · intro hp
        obtain ⟨f, hf, rfl⟩ := List.mem_map.1 hp
        have hl := (hmem f hf).1
        rcases rget_mem m f.1 with h0 | ⟨e, he, h0⟩
        · rw [h0] at hl; exact absurd rfl hl
        · have hg := rget_shown m (rise_ne P.rise) f.1
          rcases rget_mem (shownM m) f.1 with h5 | h5
          · rw [h5] at hg; exact absurd hg.symm hl
          · refine Decidable.byContradiction fun hno => ?_
            rw [rget_none fun x hx e => hno (List.mem_map.2 ⟨x, hx, e⟩)] at hg
            exact hl hg.symm
      · intro hp
        obtain ⟨e, he, rfl⟩ := List.mem_map.1 hp
        have hg := rget_shown m (rise_ne P.rise) e.1
        rw [rget_at hs he] at hg
        obtain ⟨_, _, _, _, k3⟩ := shown_mem he
        have : (e.1, data0 (rget m e.1)) ∈ files := (h.2 _).2 (by
          show seenS (rget m e.1) = _
          unfold seenS
          rw [if_neg (by rw [← hg]; exact k3)])
        exact List.mem_map.2 ⟨_, this, rfl⟩
    simpa using this
  · obtain ⟨h1, h2⟩ := hmem f hf
    refine ⟨?_, ?_, h2⟩
    · refine Decidable.byContradiction fun h0 => ?_
      rw [rget_bad P.gm.1 h0] at h1
      exact h1 rfl
    · intro hw
      have := @winner_some (rget m f.1)
      rw [hw, decide_eq_true h1] at this
      cases this
end Sp
end Go.Proofs.YtmlfnidckfeebaaGreatDoor
namespace Go.Proofs.YtmlfnidckfeebaaGreatDoor
open Go.RowKit Go.Shelf
attribute [local go_sem] yUpon strOf_toList
namespace Sp
theorem Both.pair {o : Option T} {m : List DE} (h : Both o m) : Pair o m := ⟨h.go, h.gm, h.eq⟩
end Sp
set_option maxRecDepth 100000 in
set_option maxHeartbeats 4000000 in
theorem clash18_calls (oa ob : Option Sp.T) (ma mb : List Sp.DE) (PA : Sp.Both oa ma) (PB : Sp.Both ob mb) (A B : Option Addr) (c c' : Nat) (w : World) (hA : EntsAt w A ma) (hB : EntsAt w B mb) (K : KeysAt w 0) :
    Calls Tryz.prog 26 #[.slice A ma.length c, .slice B mb.length c'] w fun e w' => ∃ b, e = .returned (.bool b) ∧ (Sp.clashS (Sp.textsT (oa.getD .nil) ++ Sp.textsT (ob.getD .nil)) = true → b = true) ∧ Ext w w' := by
  have HB := Lib.hid hB
  have KK := Lib.hid K
  have LA := Lib.hid (Sp.texts_few PA.pair.ok PA.gm PA.pair.ent)
  have LB := Lib.hid (Sp.texts_few PB.pair.ok PB.gm PB.pair.ent)
  have XA := Lib.hid (rtexts_calls ma PA.gm A c 5 [] (oa.getD .nil) w (by omega) (.inl rfl) PA.pair.ok PA.pair.size (by rw [Sp.parts_empty]; exact PA.pair.ent) (by have := LA.out; omega) hA K)
  have XB := Lib.hid fun W (e : Ext w W) => rtexts_calls mb PB.gm B c' 5 [] (ob.getD .nil) W (by omega) (.inl rfl) PB.pair.ok PB.pair.size (by rw [Sp.parts_empty]; exact PB.pair.ent) (by have := LB.out; omega) (HB.out.ext e) (KK.out.ext e)
  have KS := Lib.hid (show ∀ x ∈ Sp.textsT (oa.getD .nil) ++ Sp.textsT (ob.getD .nil), x.length ≤ 4000000000 from fun x hx => by
    rcases List.mem_append.1 hx with hx | hx
    · exact Sp.texts_short _ PA.pair.ok PA.pair.size _ hx
    · exact Sp.texts_short _ PB.pair.ok PB.pair.size _ hx)
  obtain ⟨ta, hta⟩ : ∃ ta, ta = Sp.textsT (oa.getD .nil) := ⟨_, rfl⟩
  obtain ⟨tb, htb⟩ : ∃ tb, tb = Sp.textsT (ob.getD .nil) := ⟨_, rfl⟩
  rw [← hta] at LA XA KS ⊢
  rw [← htb] at LB XB KS ⊢
  clear hta htb PA PB hA hB K
  go_enter Tryz.func26, Tryz.ntmps26
  go_wp2_with fail
  refine XA.out.mono ?_
  rintro e w7 ⟨v7, rfl, hO7, hb7⟩
  have O7 := Lib.hid hO7
  have B7 := Lib.hid hb7
  clear hO7 hb7 XA
  go_wp2_with fail
  refine (XB.out w7 B7.out).mono ?_
  rintro e w8 ⟨v8, rfl, hO8, hb8⟩
  obtain ⟨A8, c8, rfl, hc8⟩ := own_read hO8
  have C8 := Lib.hid (show Cells w8 A8 (strsC tb) from hc8)
  have O78 := Lib.hid (own_ext O7.out hb8)
  have B8 := Lib.hid (B7.out.trans hb8)
  clear hO8 hb8 hc8 XB O7
  have tokA : True := trivial
  go_wp2_with (have _t := tokA; at_builtin; refine app_cells appStr rfl _ _ rfl _ v7 ta.length _ rfl O78.out A8 tb.length c8 (strsC tb) rfl (by rw [tstr_len, Nat.mul_one]) C8.out (tstr_one tb) (by have := LA.out; have := LB.out; omega) B8.out.size ?_; intro v9 w9 hown9 hgr9 hb9; rw [← List.length_append, ← tstr_cat] at hown9; obtain ⟨A9, c9, hv9, hc9⟩ := own_read hown9; subst hv9; have N9 := Lib.hid (show Nams w9 A9 (ta ++ tb) from hc9); have B9 := Lib.hid (show Ext _ w9 from Below.trans B8.out hb9); clear tokA _t hown9 hgr9 hb9 hc9)
  have G2 := Lib.hid (show (ta ++ tb).length ≤ 2000 by rw [List.length_append]; have := LA.out; have := LB.out; omega)
  have G3 := Lib.hid (rclash_any (ta ++ tb) A9 c9 w9 N9.out G2.out KS.out (KK.out.ext B9.out))
  rw [List.length_append] at G3
  refine G3.out.mono ?_
  rintro e w10 ⟨b, rfl, hc, hb10⟩
  have HC := Lib.hid hc
  have B10 := Lib.hid (B9.out.trans hb10)
  clear hc hb10
  go_wp2
  go_ret
  exact ⟨b, rfl, HC.out, B10.out⟩
def anyV (l : List Sp.Ver) : Value := if Sp.live l = [] then .nilIface else .iface 233 (.agg #[.string (strOf (Sp.data0 l)), .int .i64 (Sp.live l).length])
theorem data0_win (l : List Sp.Ver) : Sp.data0 l = ((Sp.winner l).getD Sp.verZ).data := by
  unfold Sp.data0
  cases Sp.winner l <;> rfl
set_option maxRecDepth 100000 in
theorem run_any_file (l : List Sp.Ver) (w : World) : (Instr.typeAssert (anyV l) 20 233 true).run Tryz.prog w = .ok (.tuple #[.agg #[.string (strOf (Sp.data0 l)), .int .i64 (Sp.live l).length], .bool (decide (Sp.live l ≠ []))]) w := by
  unfold anyV
  by_cases h : Sp.live l = []
  · have hd : Sp.data0 l = [] := by unfold Sp.data0 Sp.winner; rw [h]; rfl
    rw [if_pos h, hd, h]
    rfl
  · rw [if_neg h]
    have hd : decide (Sp.live l ≠ []) = true := decide_eq_true h
    rw [hd]
    generalize Value.agg #[.string (strOf (Sp.data0 l)), .int .i64 (Sp.live l).length] = v
    rfl
set_option maxRecDepth 100000 in
set_option maxHeartbeats 4000000 in
theorem wseen_calls (l : List Sp.Ver) (A : Option Addr) (cap : Nat) (w : World) (h : Vers w A l) (hl : l.length ≤ 1000) :
    Calls Tryz.prog 181 #[.slice A l.length cap] w fun e w' => e = .returned (anyV l) ∧ Ext w w' := by
  have WC := Lib.hid (winner_is l A cap w h hl)
  have LC := Lib.hid fun W (e : Ext w W) => live_calls l A cap W (h.ext e) (by omega)
  have D0 := Lib.hid (data0_win l)
  obtain ⟨av, hav⟩ : ∃ av, av = anyV l := ⟨_, rfl⟩
  rw [← hav]
  have AV := Lib.hid (show av = if Sp.live l = [] then .nilIface else .iface 233 (.agg #[.string (strOf (Sp.data0 l)), .int .i64 (Sp.live l).length]) from hav)
  obtain ⟨x, hx⟩ : ∃ x, x = (Sp.winner l).getD Sp.verZ := ⟨_, rfl⟩
  rw [← hx] at WC D0
  rw [D0.out] at AV
  obtain ⟨bq, hbq⟩ : ∃ bq, bq = decide (Sp.live l ≠ []) := ⟨_, rfl⟩
  rw [← hbq] at WC
  have BQ := Lib.hid hbq
  clear h hav hx D0 hbq
  have tok1 : True := trivial
  go_enter Tryz.func181, Tryz.ntmps181
  go_wp2_with fail
  refine WC.out.mono ?_
  rintro e w1 ⟨A1, c1, rfl, hb1⟩
  have E1 := Lib.hid hb1
  clear hb1 WC
  go_upto_region 2 with (have _t := tok1; ((with_reducible refine at_alloc (t := 71) rfl ?_); refine box_new rfl (cs := #[.int .i64 0, .int .i64 0, .slice none 0 0, .bool false, .string ⟨#[]⟩]) (t := 71) (by first | (go_simp; done) | (go_simp; rfl)) ?_; intro g2 w2 hg2 hx2 hb2; have H2 := Lib.hid hx2; have B2 := Lib.hid (show Ext w1 w2 from hb2); have GG2 := Lib.hid hg2; have k0 := hx2.frozen 0; have k1 := hx2.frozen 1; have k2 := hx2.frozen 2; have k3 := hx2.frozen 3; have k4 := hx2.frozen 4; have e0 := (hx2.cell 0).trans rfl; have e1 := (hx2.cell 1).trans rfl; have e2 := (hx2.cell 2).trans rfl; have e3 := (hx2.cell 3).trans rfl; have e4 := (hx2.cell 4).trans rfl; clear tok1 _t hx2 hb2 hg2))
  obtain ⟨w3, hw3⟩ : ∃ w3, w3 = ((((w2.setCell ⟨g2, 0, none⟩ (.int .i64 x.dot.1)).setCell ⟨g2, 1, none⟩ (.int .i64 x.dot.2)).setCell ⟨g2, 2, none⟩ (.slice A1 x.past.length c1)).setCell ⟨g2, 3, none⟩ (.bool x.dead)).setCell ⟨g2, 4, none⟩ (.string (strOf x.data)) := ⟨_, rfl⟩
  have X3 := Lib.hid (show isBlk w3 g2 71 #[.int .i64 x.dot.1, .int .i64 x.dot.2, .slice A1 x.past.length c1, .bool x.dead, .string (strOf x.data)] by rw [hw3]; exact ((((H2.out.put 0 _ rfl).put 1 _ rfl).put 2 _ rfl).put 3 _ rfl).put 4 _ rfl)
  have E3 := Lib.hid (show Ext w1 w3 by rw [hw3]; exact ((((B2.out.setCell GG2.out _).setCell GG2.out _).setCell GG2.out _).setCell GG2.out _).setCell GG2.out _)
  rw [← hw3]
  clear hw3 k0 k1 k2 k3 k4 e0 e1 e2 e3 e4
  have F3 := Lib.hid (E1.out.trans E3.out)
  by_cases hq : Sp.live l = []
  · have AV2 := Lib.hid (show av = .nilIface by rw [AV.out, if_pos hq])
    obtain rfl : bq = false := by rw [BQ.out, decide_eq_false_iff_not]; simpa using hq
    clear hq AV BQ
    go_wp2
    go_ret
    exact ⟨by rw [AV2.out]; rfl, F3.out⟩
  · have AV2 := Lib.hid (show av = .iface 233 (.agg #[.string (strOf x.data), .int .i64 (Sp.live l).length]) by rw [AV.out, if_neg hq])
    obtain rfl : bq = true := by rw [BQ.out]; exact decide_eq_true hq
    obtain ⟨q, hqq⟩ : ∃ q, q = Sp.live l := ⟨_, rfl⟩
    rw [← hqq] at LC AV2
    clear hq AV hqq BQ
    go_wp2_with fail
    refine wp_region_planT (fun W => Ext w3 W) 7 [(true, 0), (true, 1), (true, 2), (false, 3), (false, 4), (false, 5), (false, 6)] (by kernel_rfl) (by kernel_rfl) (Ext.refl w3).drew ?_
    repeat (refine plan_float rfl (fun K hK => ?_)
            first
            | (apply Exists.intro
               refine ⟨Or.inl ⟨rfl, fun W hS => ?_⟩, ?_⟩
               · have hz : Ext w3 W := hS; have f4 := ((X3.out.below hz).cell 4).trans rfl
                 go_simp
                 first | done | exact rfl
               go_simp
               refine hK _ ?_
               clear hK K)
            | (refine floatT_no' rfl ?_; go_simp; refine hK _ ?_; clear hK K))
    refine plan_only rfl (fun Q' hQ' => ?_)
    go_wp2_with fail
    refine (LC.out w3.drew (F3.out.trans (Ext.refl w3).drew)).mono ?_
    rintro e w4 ⟨v4, rfl, hO4, hb4⟩
    obtain ⟨A4, c4, rfl, _⟩ := hO4.read
    have E4 := Lib.hid (show Ext w3 w4 from ((Ext.refl w3).drew).trans hb4)
    clear hO4 hb4
    go_wp2
    refine hQ' _ _ E4.out ?_
    clear hQ'
    refine plan_only rfl (fun Q' hQ' => ?_)
    go_wp2
    refine hQ' _ _ E4.out ?_
    clear hQ'
    refine plan_only rfl (fun Q' hQ' => ?_)
    go_wp2
    refine hQ' _ _ E4.out ?_
    clear hQ'
    refine plan_only rfl (fun Q' hQ' => ?_)
    go_wp2
    refine hQ' _ _ E4.out ?_
    clear hQ'
    refine plan_nil ?_
    go_wp2_with fail
    refine ⟨rfl, ?_⟩
    go_wp2
    go_ret
    exact ⟨by rw [AV2.out]; rfl, F3.out.trans E4.out⟩
abbrev chgC (c : Sp.Chg) : Array Value := #[.string (strOf c.path), .int .i64 c.kind, .string (strOf c.was), .string (strOf c.now)]
set_option maxRecDepth 100000 in
set_option maxHeartbeats 8000000 in
theorem wchange_calls (p : Sp.Bs) (x y : List Sp.Ver) (A B : Option Addr) (c c' : Nat) (w : World) (h : Vers w A x) (h' : Vers w B y) (hl : x.length ≤ 1000) (hl' : y.length ≤ 1000) :
    Calls Tryz.prog 115 #[.string (strOf p), .slice A x.length c, .slice B y.length c'] w fun e w' => e = .returned (.tuple #[.agg (chgC ⟨p, Sp.kindS x y, Sp.data0 x, Sp.data0 y⟩), .bool (decide (Sp.kindS x y ≠ 0))]) ∧ Ext w w' := by
  have SX := Lib.hid fun W (e : Ext w W) => wseen_calls x A c W (h.ext e) hl
  have SY := Lib.hid fun W (e : Ext w W) => wseen_calls y B c' W (h'.ext e) hl'
  have tx := fun w => run_any_file x w
  have ty := fun w => run_any_file y w
  have DX := show Sp.live x = [] → Sp.data0 x = [] from fun h => by unfold Sp.data0 Sp.winner; rw [h]; rfl
  have DY := show Sp.live y = [] → Sp.data0 y = [] from fun h => by unfold Sp.data0 Sp.winner; rw [h]; rfl
  have KD : Sp.kindS x y = if Sp.live x = [] ∧ Sp.live y ≠ [] then 1 else if Sp.live x ≠ [] ∧ Sp.live y = [] then 2 else if Sp.data0 x ≠ Sp.data0 y then 3 else if (Sp.live x).length ≠ (Sp.live y).length then 4 else 0 := rfl
  obtain ⟨k, hk⟩ : ∃ k, k = Sp.kindS x y := ⟨_, rfl⟩
  obtain ⟨dx, hdx⟩ : ∃ dx, dx = Sp.data0 x := ⟨_, rfl⟩
  obtain ⟨dy, hdy⟩ : ∃ dy, dy = Sp.data0 y := ⟨_, rfl⟩
  obtain ⟨nx, hnx⟩ : ∃ nx, nx = (Sp.live x).length := ⟨_, rfl⟩
  obtain ⟨ny, hny⟩ : ∃ ny, ny = (Sp.live y).length := ⟨_, rfl⟩
  obtain ⟨bx, hbx⟩ : ∃ bx, bx = decide (Sp.live x ≠ []) := ⟨_, rfl⟩
  obtain ⟨by', hby⟩ : ∃ by', by' = decide (Sp.live y ≠ []) := ⟨_, rfl⟩
  obtain ⟨bk, hbk⟩ : ∃ bk, bk = decide (Sp.kindS x y ≠ 0) := ⟨_, rfl⟩
  have KK := Lib.hid (show (bx = false → dx = [] ∧ nx = 0) ∧ (by' = false → dy = [] ∧ ny = 0) ∧ k = if bx = false ∧ by' = true then 1 else if bx = true ∧ by' = false then 2 else if dx ≠ dy then 3 else if nx ≠ ny then 4 else 0 by
    refine ⟨fun h => ?_, fun h => ?_, ?_⟩
    · have h0 : Sp.live x = [] := by rw [hbx] at h; simpa using h
      exact ⟨by rw [hdx, DX h0], by rw [hnx, h0]; rfl⟩
    · have h0 : Sp.live y = [] := by rw [hby] at h; simpa using h
      exact ⟨by rw [hdy, DY h0], by rw [hny, h0]; rfl⟩
    · rw [hk, KD, hbx, hby, hdx, hdy, hnx, hny]
      by_cases h1 : Sp.live x = [] <;> by_cases h2 : Sp.live y = [] <;> simp [h1, h2])
  have BK := Lib.hid (show bk = decide (k ≠ 0) by rw [hbk, hk])
  rw [← hdx, ← hnx, ← hbx] at tx
  rw [← hdy, ← hny, ← hby] at ty
  rw [← hbk, ← hk, ← hdx, ← hdy]
  have nl : (nx : Int) ≤ 1000 := by have : (Sp.live x).length ≤ x.length := List.length_filter_le _ _; omega
  obtain ⟨ax, hax⟩ : ∃ ax, ax = anyV x := ⟨_, rfl⟩
  obtain ⟨ay, hay⟩ : ∃ ay, ay = anyV y := ⟨_, rfl⟩
  rw [← hax] at SX tx
  rw [← hay] at SY ty
  clear h h' DX DY KD hk hdx hdy hnx hny hbx hby hbk hax hay
  go_enter Tryz.func115, Tryz.ntmps115
  have tokF : True := trivial
  have tokG : True := trivial
  go_upto_region 1 with fail
  obtain ⟨w0, hw0⟩ : ∃ w0, w0 = w.alloc (.cells #[.string ⟨#[]⟩, .int .i64 0, .string ⟨#[]⟩, .string ⟨#[]⟩] 88) := ⟨_, rfl⟩
  have X0 := Lib.hid (show isBlk w0 w.heap.size 88 #[.string ⟨#[]⟩, .int .i64 0, .string ⟨#[]⟩, .string ⟨#[]⟩] by rw [hw0]; exact box_at w _ _)
  have E0 := Lib.hid (show Ext w w0 by rw [hw0]; exact Ext.alloc _ _)
  rw [← hw0]
  clear hw0
  go_wp2_with fail
  refine (SX.out w0 E0.out).mono ?_
  rintro e w1 ⟨rfl, hb1⟩
  have E1 := Lib.hid (E0.out.trans hb1)
  have X1 := Lib.hid (X0.out.below hb1)
  clear hb1 X0 SX
  go_upto_region 2 with (have _t := tokF; ((with_reducible refine at_alloc (t := 233) rfl ?_); refine box_new rfl (cs := #[.string ⟨#[]⟩, .int .i64 0]) (t := 233) (by first | (go_simp; done) | (go_simp; rfl)) ?_; intro g2 w2 hg2 hx2 hb2; have H2 := Lib.hid hx2; have B2 := Lib.hid (show Ext w1 w2 from hb2); have GG2 := Lib.hid hg2; have k0 := hx2.frozen 0; have k1 := hx2.frozen 1; have e0 := (hx2.cell 0).trans rfl; have e1 := (hx2.cell 1).trans rfl; clear tokF _t hx2 hb2 hg2))
  obtain ⟨w3, hw3⟩ : ∃ w3, w3 = (w2.setCell ⟨g2, 0, none⟩ (.string (strOf dx))).setCell ⟨g2, 1, none⟩ (.int .i64 nx) := ⟨_, rfl⟩
  have X3 := Lib.hid (show isBlk w3 g2 233 #[.string (strOf dx), .int .i64 nx] by rw [hw3]; exact (H2.out.put 0 _ rfl).put 1 _ rfl)
  have E3 := Lib.hid (show Ext w1 w3 by rw [hw3]; exact (B2.out.setCell GG2.out _).setCell GG2.out _)
  rw [← hw3]
  clear hw3 k0 k1 e0 e1
  go_wp2_with fail
  refine (SY.out w3 (E1.out.trans E3.out)).mono ?_
  rintro e w4 ⟨rfl, hb4⟩
  have E4 := Lib.hid (E3.out.trans hb4)
  have X4 := Lib.hid (X3.out.below hb4)
  have Z4 := Lib.hid (X1.out.below E4.out)
  clear hb4 X3 X1 SY
  go_upto_region 3 with (have _t := tokG; ((with_reducible refine at_alloc (t := 233) rfl ?_); refine box_new rfl (cs := #[.string ⟨#[]⟩, .int .i64 0]) (t := 233) (by first | (go_simp; done) | (go_simp; rfl)) ?_; intro g5 w5 hg5 hx5 hb5; have H5 := Lib.hid hx5; have B5 := Lib.hid (show Ext w4 w5 from hb5); have GG5 := Lib.hid hg5; have k0 := hx5.frozen 0; have k1 := hx5.frozen 1; have e0 := (hx5.cell 0).trans rfl; have e1 := (hx5.cell 1).trans rfl; clear tokG _t hx5 hb5 hg5))
  obtain ⟨w6, hw6⟩ : ∃ w6, w6 = (w5.setCell ⟨g5, 0, none⟩ (.string (strOf dy))).setCell ⟨g5, 1, none⟩ (.int .i64 ny) := ⟨_, rfl⟩
  have X6 := Lib.hid (show isBlk w6 g5 233 #[.string (strOf dy), .int .i64 ny] by rw [hw6]; exact (H5.out.put 0 _ rfl).put 1 _ rfl)
  have E6 := Lib.hid (show Ext w4 w6 by rw [hw6]; exact (B5.out.setCell GG5.out _).setCell GG5.out _)
  rw [← hw6]
  clear hw6 k0 k1 e0 e1
  have X46 := Lib.hid (X4.out.below E6.out)
  have Z6 := Lib.hid (Z4.out.below E6.out)
  have F6 := Lib.hid (E1.out.trans (E4.out.trans E6.out))
  have f0 := (X46.out.cell 0).trans rfl
  have f2 := (X6.out.cell 0).trans rfl
  have tokC : True := trivial
  go_upto_block 0 with (have _t := tokC; ((with_reducible refine at_alloc (t := 88) rfl ?_); refine box_new rfl (cs := #[.string ⟨#[]⟩, .int .i64 0, .string ⟨#[]⟩, .string ⟨#[]⟩]) (t := 88) (by first | (go_simp; done) | (go_simp; rfl)) ?_; intro g7 w7 hg7 hx7 hb7; have H7 := Lib.hid hx7; have B7 := Lib.hid (show Ext w6 w7 from hb7); have GG7 := Lib.hid hg7; have k0 := hx7.frozen 0; have k1 := hx7.frozen 1; have k2 := hx7.frozen 2; have k3 := hx7.frozen 3; have e0 := (hx7.cell 0).trans rfl; have e1 := (hx7.cell 1).trans rfl; have e2 := (hx7.cell 2).trans rfl; have e3 := (hx7.cell 3).trans rfl; clear tokC _t hx7 hb7 hg7))
  obtain ⟨w8, hw8⟩ : ∃ w8, w8 = (((w7.setCell ⟨g7, 0, none⟩ (.string (strOf p))).setCell ⟨g7, 1, none⟩ (.int .i64 0)).setCell ⟨g7, 2, none⟩ (.string (strOf dx))).setCell ⟨g7, 3, none⟩ (.string (strOf dy)) := ⟨_, rfl⟩
  have X8 := Lib.hid (show isBlk w8 g7 88 #[.string (strOf p), .int .i64 0, .string (strOf dx), .string (strOf dy)] by rw [hw8]; exact (((H7.out.put 0 _ rfl).put 1 _ rfl).put 2 _ rfl).put 3 _ rfl)
  have E68 := Lib.hid (show Ext w6 w8 by rw [hw8]; exact (((B7.out.setCell GG7.out _).setCell GG7.out _).setCell GG7.out _).setCell GG7.out _)
  rw [← hw8]
  clear hw8 k0 k1 k2 k3 e0 e1 e2 e3 f0 f2
  have E8 := Lib.hid (F6.out.trans E68.out)
  have Z8 := Lib.hid (Z6.out.below E68.out)
  have XA := Lib.hid (X46.out.below E68.out)
  have XB := Lib.hid (X6.out.below E68.out)
  have G7 := Lib.hid (show w.heap.size ≤ g7 from Nat.le_trans F6.out.size GG7.out)
  have N7 := Lib.hid (show w.heap.size ≠ g7 by have h1 := Z6.out.lt; have h2 := GG7.out; omega)
  have a0 := (XA.out.cell 0).trans rfl
  have a1 := (XA.out.cell 1).trans rfl
  have b0 := (XB.out.cell 0).trans rfl
  have b1 := (XB.out.cell 1).trans rfl
  have c0 := X8.out.frozen 1
  have c1 := (X8.out.cell 1).trans rfl
  go_cut [31] (fun _ wx => isBlk wx g7 88 #[.string (strOf p), .int .i64 k, .string (strOf dx), .string (strOf dy)] ∧ isBlk wx w.heap.size 88 #[.string ⟨#[]⟩, .int .i64 0, .string ⟨#[]⟩, .string ⟨#[]⟩] ∧ Ext w wx)
  case first =>
    cases bx with
    | false =>
      cases by' with
      | false =>
        obtain ⟨d1, n1⟩ := KK.out.1 rfl
        obtain ⟨d2, n2⟩ := KK.out.2.1 rfl
        have K0 := Lib.hid (show k = 0 by rw [KK.out.2.2, d1, d2, n1, n2]; rfl)
        subst d1 n1 d2 n2
        clear KK
        go_wp2
        go_meet
        case rel => exact ⟨by rw [K0.out]; exact X8.out, Z8.out, E8.out⟩
      | true =>
        have K0 := Lib.hid (show k = 1 by rw [KK.out.2.2]; rfl)
        clear KK
        go_wp2
        go_meet
        case rel => exact ⟨by rw [K0.out]; exact X8.out.put 1 _ rfl, Z8.out.far N7.out _, E8.out.setCell G7.out _⟩
    | true =>
      cases by' with
      | false =>
        have K0 := Lib.hid (show k = 2 by rw [KK.out.2.2]; rfl)
        clear KK
        go_wp2
        go_meet
        case rel => exact ⟨by rw [K0.out]; exact X8.out.put 1 _ rfl, Z8.out.far N7.out _, E8.out.setCell G7.out _⟩
      | true =>
        by_cases hd : dx = dy
        · have t1 : (dx == dy) = true := by rw [hd]; exact beq_self_eq_true _
          by_cases hn : nx = ny
          · have t2 : ((nx : Int) == (ny : Int)) = true := by rw [hn]; exact beq_self_eq_true _
            have K0 := Lib.hid (show k = 0 by rw [KK.out.2.2, hd, hn]; simp)
            clear KK hd hn
            go_wp2
            go_meet
            case rel => exact ⟨by rw [K0.out]; exact X8.out, Z8.out, E8.out⟩
          · have t2 : ((nx : Int) == (ny : Int)) = false := by rw [beq_eq_false_iff_ne]; omega
            have K0 := Lib.hid (show k = 4 by rw [KK.out.2.2, hd]; simp [hn])
            clear KK hd hn
            go_wp2
            go_meet
            case rel => exact ⟨by rw [K0.out]; exact X8.out.put 1 _ rfl, Z8.out.far N7.out _, E8.out.setCell G7.out _⟩
        · have t1 : (dx == dy) = false := by rw [beq_eq_false_iff_ne]; exact hd
          have K0 := Lib.hid (show k = 3 by rw [KK.out.2.2]; simp [hd])
          clear KK hd
          go_wp2
          go_meet
          case rel => exact ⟨by rw [K0.out]; exact X8.out.put 1 _ rfl, Z8.out.far N7.out _, E8.out.setCell G7.out _⟩
  case rest =>
    obtain ⟨hx9, hz9, he9⟩ := hcut
    obtain ⟨w9, hw9⟩ : ∃ w9, w9 = wc := ⟨_, rfl⟩
    rw [← hw9] at hx9 hz9 he9 ⊢
    have X9 := Lib.hid hx9
    have Z9 := Lib.hid hz9
    have E9 := Lib.hid he9
    clear hx9 hz9 he9 hw9 a0 a1 b0 b1 c0 c1 KK
    go_wp2_with fail
    refine wp_region_planT (fun W => isBlk W g7 88 #[.string (strOf p), .int .i64 k, .string (strOf dx), .string (strOf dy)]) 5 [(true, 0), (true, 1), (true, 2), (true, 3), (false, 4)] (by kernel_rfl) (by kernel_rfl) X9.out.drew ?_
    repeat (refine plan_float rfl (fun K hK => ?_)
            first
            | (apply Exists.intro
               refine ⟨Or.inl ⟨rfl, fun W hS => ?_⟩, ?_⟩
               · have f0 := (hS.cell 0).trans rfl; have f1 := (hS.cell 1).trans rfl; have f2 := (hS.cell 2).trans rfl; have f3 := (hS.cell 3).trans rfl
                 go_simp
                 first | done | exact rfl
               go_simp
               refine hK _ ?_
               clear hK K)
            | (refine floatT_no' rfl ?_; go_simp; refine hK _ ?_; clear hK K))
    have ZA := Lib.hid Z9.out.drew
    have XA := Lib.hid X9.out.drew
    have EW := Lib.hid (show Ext w w9.drew from E9.out.trans (Ext.refl w9).drew)
    have g0 := ZA.out.frozen 0
    have g1 := ZA.out.frozen 1
    have g2 := ZA.out.frozen 2
    have g3 := ZA.out.frozen 3
    have e0 := (ZA.out.cell 0).trans rfl
    have e1 := (ZA.out.cell 1).trans rfl
    have e2 := (ZA.out.cell 2).trans rfl
    have e3 := (ZA.out.cell 3).trans rfl
    obtain ⟨wd, hwd⟩ : ∃ wd, wd = w9.drew := ⟨_, rfl⟩
    rw [← hwd] at ZA XA EW g0 g1 g2 g3 e0 e1 e2 e3 ⊢
    clear hwd
    have N8 := N7.out.symm
    refine plan_only rfl (fun Q' hQ' => ?_)
    go_wp2
    refine hQ' _ _ ((((XA.out.far N8 _).far N8 _).far N8 _).far N8 _) ?_
    clear hQ'
    refine plan_nil ?_
    go_wp2_with fail
    refine ⟨rfl, ?_⟩
    go_wp2
    refine bodyPost_ret (results_cell_two rfl _ _ w.heap.size 88 #[.string (strOf p), .int .i64 k, .string (strOf dx), .string (strOf dy)] _ rfl ((((ZA.out.put 0 _ rfl).put 1 _ rfl).put 2 _ rfl).put 3 _ rfl) Tryz.underlying88 rfl (by kernel_rfl)) rfl ?_
    refine ⟨?_, (((EW.out.setCell (p := ⟨w.heap.size, 0, none⟩) (by simp) _).setCell (p := ⟨w.heap.size, 1, none⟩) (by simp) _).setCell (p := ⟨w.heap.size, 2, none⟩) (by simp) _).setCell (p := ⟨w.heap.size, 3, none⟩) (by simp) _⟩
    have BKF := BK.out
    by_cases hk0 : k = 0
    · rw [BKF, hk0]
      rfl
    · rw [BKF, decide_eq_true hk0]
      simp [hk0, chgC]
end Go.Proofs.YtmlfnidckfeebaaGreatDoor
