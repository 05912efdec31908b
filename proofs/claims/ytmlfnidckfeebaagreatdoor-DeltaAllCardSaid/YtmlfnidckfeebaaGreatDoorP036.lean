/- Walks: whether two unlike texts have one digest, by the document. What users see change, plain. Who notes what a watcher tells has the files: plain. Deltas: have two unlike nodes of two trees one digest? All that differ, counted. -/
import Derived.Test.YtmlfnidckfeebaaGreatDoorP035
namespace Go.Proofs.YtmlfnidckfeebaaGreatDoor
open Go.RowKit Go.Shelf
attribute [local go_sem] yUpon strOf_toList
theorem appDig : AppStat Tryz.prog 203 36 32 32 := by
  refine ⟨Tryz.underlying203, by decide, by decide, ?_⟩
  obtain ⟨i0, hi, hz0, hz1, hz2⟩ := info_parts (show (Tryz.prog.info? 36).map (fun i => (i.zero, i.size, i.bytes)) = some (some (.agg (digC (List.replicate 32 0))), 32, 32) by kernel_rfl)
  exact ⟨i0, _, hi, hz0, hz1, hz2, by simp [digC, Value.cells]⟩
def digsC : List Sp.Bs → List Value
  | [] => []
  | x :: r => (Sp.sha x).map byteV ++ digsC r
theorem digsC_snoc (l : List Sp.Bs) (x : Sp.Bs) : digsC (l ++ [x]) = digsC l ++ (Sp.sha x).map byteV := by
  induction l with
  | nil => simp [digsC]
  | cons y r ih => rw [List.cons_append, digsC, ih, digsC, List.append_assoc]
theorem digsC_len : ∀ l, (digsC l).length = l.length * 32
  | [] => rfl
  | x :: r => by rw [digsC, List.length_append, List.length_map, Sp.sha_len, digsC_len r, List.length_cons]; omega
theorem digsC_get : ∀ (l : List Sp.Bs) (k j : Nat) (h : k < l.length) (v : Value), ((Sp.sha l[k]).map byteV)[j]? = some v → (digsC l)[k * 32 + j]? = some v
  | x :: r, 0, j, h, v, hv => by
    have hj : j < ((Sp.sha x).map byteV).length := (List.getElem?_eq_some_iff.1 hv).1
    rw [digsC, Nat.zero_mul, Nat.zero_add, List.getElem?_append_left hj]
    exact hv
  | x :: r, k + 1, j, h, v, hv => by
    rw [digsC, List.getElem?_append_right (by rw [List.length_map, Sp.sha_len]; omega), List.length_map, Sp.sha_len, show (k + 1) * 32 + j - 32 = k * 32 + j by omega]
    exact digsC_get r k j (by simpa using h) v hv
namespace Sp
mutual
theorem texts_short : ∀ t : T, Ok t → sizeT t ≤ 128 → ∀ x ∈ textsT t, x.length ≤ 4000000000
  | .mk lf k, h, hs, x, hx => by
    rw [textsT] at hx
    rcases List.mem_cons.1 hx with rfl | hx
    · refine nbytes_len _ (fun y hy => ?_) (node_writes _ h hs)
      rw [nodeT] at hy
      refine ⟨kidsT_32 k y hy, ?_⟩
      rw [kidsT_eq] at hy
      obtain ⟨z, hz, rfl⟩ := List.mem_map.1 hy
      exact Nat.le_trans (name_len (okL_names k h.2.2 z hz).1) (by decide)
    · rw [sizeT] at hs
      exact textsL_short k h.2.2 (by omega) x hx
theorem textsL_short : ∀ k : List (Bs × T), OkL k → sizeL k ≤ 128 → ∀ x ∈ textsL k, x.length ≤ 4000000000
  | [], _, _, x, hx => by rw [textsL] at hx; cases hx
  | (n, t) :: r, h, hs, x, hx => by
    rw [textsL] at hx
    rw [sizeL] at hs
    rcases List.mem_append.1 hx with hx | hx
    · exact texts_short t h.2.2.1 (by omega) x hx
    · exact textsL_short r h.2.2.2 (by omega) x hx
end
/-- Have two texts, unlike ones, one digest? -/
def clashAt (l : List Bs) (k i : Nat) : Prop := sha (l.getD k []) = sha (l.getD i []) ∧ l.getD k [] ≠ l.getD i []
theorem clash_some {l : List Bs} (h : clashS l = true) : ∃ i k, i < l.length ∧ k < i ∧ clashAt l k i := by
  unfold clashS at h
  obtain ⟨i, hi, h2⟩ := List.any_eq_true.1 h
  obtain ⟨k, hk, h3⟩ := List.any_eq_true.1 h2
  simp only [Bool.and_eq_true, decide_eq_true_eq] at h3
  exact ⟨i, k, List.mem_range.1 hi, List.mem_range.1 hk, h3⟩
end Sp
set_option maxRecDepth 100000 in
set_option maxHeartbeats 4000000 in
theorem rclash_any (l : List Sp.Bs) (A : Option Addr) (cap : Nat) (w : World) (h : Nams w A l) (hl : l.length ≤ 2000) (hs : ∀ x ∈ l, x.length ≤ 4000000000) (K : KeysAt w 0) :
    Calls Tryz.prog 81 #[.slice A l.length cap] w fun e w' => ∃ b, e = .returned (.bool b) ∧ (Sp.clashS l = true → b = true) ∧ Ext w w' := by
  have HH := Lib.hid h
  have HS := Lib.hid hs
  have KK := Lib.hid K
  have CS := Lib.hid fun hc => Sp.clash_some (l := l) hc
  clear h hs K
  go_enter Tryz.func81, Tryz.ntmps81
  go_wp2
  go_loopw [3, 4] (fun v3 v4 wr => ∃ i : Nat, i ≤ l.length ∧ v4 = .int .i64 i ∧ wr.ownsRow w.heap.size 36 32 v3 i (digsC (l.take i)) ∧ (∀ i' k', i' < i → k' < i' → ¬ Sp.clashAt l k' i') ∧ Ext w wr) (fun _ v4 _ => l.length - (intOf v4).toNat)
  case atStart => exact ⟨0, Nat.zero_le _, rfl, World.ownsRow_nil _ _ _ _, fun i' k' h => absurd h (Nat.not_lt_zero _), Ext.refl _⟩
  case round =>
    obtain ⟨i, hi, rfl, hO, hN, hb⟩ := hrel
    have HB := Lib.hid hb
    have HO := Lib.hid hO
    have HN := Lib.hid hN
    by_cases hlt : i < l.length
    · obtain ⟨sb, so, rfl, hst⟩ := HH.out.at (by omega)
      have C := Lib.hid (show ∀ k (h : k < l.length) W, Ext w W → W.cell? ⟨sb, so + k, none⟩ = some (.string (strOf l[k])) from fun k h W e => e.cell (hst k h))
      have s0 := C.out i hlt wr HB.out
      have XL := HS.out _ (List.getElem_mem hlt)
      have SC := Lib.hid (rsha_calls l[i] wr XL (KK.out.ext HB.out))
      have TT := Lib.hid (show l.take (i + 1) = l.take i ++ [l[i]] from List.take_succ_eq_append_getElem hlt)
      have XD := Lib.hid (show l.getD i [] = l[i] by rw [List.getD_eq_getElem?_getD, List.getElem?_eq_getElem hlt]; rfl)
      obtain ⟨x, hx⟩ : ∃ x, x = l[i] := ⟨_, rfl⟩
      rw [← hx] at s0 SC TT XD
      have ib : (i : Int) < (l.length : Int) := by omega
      clear hO hN hb hst XL hx
      go_wp2_with fail
      refine SC.out.mono ?_
      rintro e w5 ⟨rfl, hb5⟩
      have E5 := Lib.hid hb5
      have B5 := Lib.hid (HB.out.trans hb5)
      clear hb5 s0
      have tok : True := trivial
      have tokA : True := trivial
      go_upto_region 6 with (first
        | (have _t := tok; (with_reducible refine at_bslice rfl ?_); refine bslice_new rfl 203 36 _ rfl appDig (by decide) (digC (Sp.sha x)) rfl (by simp [digC, Sp.sha_len]) ?_; intro gv wv hgv hxv hbv; have XV := Lib.hid hxv; have BV := Lib.hid (B5.out.trans hbv); have EV := Lib.hid (E5.out.trans hbv); clear tok _t hgv hxv hbv)
        | (have _t := tokA; at_builtin; refine app_cells appDig rfl _ _ rfl w.heap.size _ i _ rfl (own_ext HO.out EV.out) (some ⟨gv, 0, none⟩) 1 1 ((Sp.sha x).map byteV) rfl (by rw [List.length_map, Sp.sha_len]) (fun _ => ⟨gv, 0, rfl, fun j u hj => by rw [Nat.zero_add, XV.out.cell j]; simpa [digC] using hj⟩) (by intro u hu; obtain ⟨b, _, rfl⟩ := List.mem_map.1 hu; rfl) (by omega) BV.out.size ?_; intro v7 w7 hown7 hgr7 hb7; have O7 := Lib.hid hown7; have B7 := Lib.hid (show Ext w w7 from Below.trans BV.out hb7); clear tokA _t hown7 hgr7 hb7))
      have O8 := Lib.hid (show w7.ownsRow w.heap.size 36 32 v7 (i + 1) (digsC (l.take (i + 1))) by rw [TT.out, digsC_snoc]; exact O7.out)
      obtain ⟨A8, c8, rfl, hc8⟩ := own_read O8.out
      obtain ⟨gd, od, rfl, hcd⟩ := hc8 (by intro e; have := digsC_len (l.take (i + 1)); rw [e, List.length_take] at this; simp at this; omega)
      have DG := Lib.hid (show ∀ k (h : k < i + 1) W, Ext w7 W → W.rangeAt gd (od + k * 32) ((Sp.sha (l.getD k [])).map byteV) from fun k h W e j u hu => by
        have hk : k < (l.take (i + 1)).length := by rw [List.length_take]; omega
        have h1 := digsC_get (l.take (i + 1)) k j hk u (by
          rw [List.getElem_take]
          rw [List.getD_eq_getElem?_getD, List.getElem?_eq_getElem (show k < l.length by omega)] at hu
          exact hu)
        rw [Nat.add_assoc]
        exact e.cell (hcd _ _ h1))
      clear hc8 hcd SC O7 HO
      go_wp2
      go_loopw [5] (fun v5 wr => ∃ k : Nat, k ≤ i ∧ v5 = .int .i64 k ∧ (∀ k', k' < k → ¬ Sp.clashAt l k' i) ∧ Ext w7 wr) (fun v5 _ => i - (intOf v5).toNat)
      case atStart => exact ⟨0, Nat.zero_le _, rfl, fun k' h => absurd h (Nat.not_lt_zero _), Ext.refl _⟩
      case round =>
        obtain ⟨k, hk, rfl, hNk, hbk⟩ := hrel
        have HBK := Lib.hid hbk
        have HNK := Lib.hid hNk
        by_cases hlk : k < i
        · have kl : k < l.length := by omega
          have YD := Lib.hid (show l.getD k [] = l[k] by rw [List.getD_eq_getElem?_getD, List.getElem?_eq_getElem kl]; rfl)
          have R1 := Lib.hid fun W (e : Ext wr W) => DG.out k (by omega) W (HBK.out.trans e)
          have R2 := Lib.hid fun W (e : Ext wr W) => DG.out i (by omega) W (HBK.out.trans e)
          rw [YD.out] at R1
          rw [XD.out] at R2
          have CL := Lib.hid (show Sp.clashAt l k i ↔ Sp.sha l[k] = Sp.sha x ∧ l[k] ≠ x by unfold Sp.clashAt; rw [YD.out, XD.out])
          have S1 := Lib.hid fun W (e : Ext wr W) => C.out k kl W (B7.out.trans (HBK.out.trans e))
          have S2 := Lib.hid fun W (e : Ext wr W) => C.out i hlt W (B7.out.trans (HBK.out.trans e))
          rw [show l[i] = x by rw [← XD.out, List.getD_eq_getElem?_getD, List.getElem?_eq_getElem hlt]; rfl] at S2
          obtain ⟨y, hy⟩ : ∃ y, y = l[k] := ⟨_, rfl⟩
          rw [← hy] at R1 S1 CL
          have hq := fun W => dig_eqv (Sp.sha y) (Sp.sha x) (Sp.sha_len _) (Sp.sha_len _) W
          have hg := dig_guard
          obtain ⟨q, hqq⟩ : ∃ q, q = (Sp.sha y == Sp.sha x) := ⟨_, rfl⟩
          rw [← hqq] at hq
          have Q1 := Lib.hid hqq
          obtain ⟨ds, hds⟩ : ∃ ds, ds = (Sp.sha y).map byteV := ⟨_, rfl⟩
          obtain ⟨dt, hdt⟩ : ∃ dt, dt = (Sp.sha x).map byteV := ⟨_, rfl⟩
          rw [← hds] at R1
          rw [← hdt] at R2
          have DL := Lib.hid (show ds.length = 32 by rw [hds, List.length_map, Sp.sha_len])
          have DM := Lib.hid (show dt.length = 32 by rw [hdt, List.length_map, Sp.sha_len])
          rw [show digC (Sp.sha y) = ds.toArray by rw [hds]; rfl, show digC (Sp.sha x) = dt.toArray by rw [hdt]; rfl] at hq
          have kb : (k : Int) < (i : Int) := by omega
          have kl2 : (k : Int) < (l.length : Int) := by omega
          have ki2 : (k : Int) < (i : Int) + 1 := by omega
          have ki3 : (i : Int) < (i : Int) + 1 := by omega
          have ki4 : i < i + 1 := Nat.lt_succ_self i
          have ki5 : (0 : Int) ≤ (i : Int) := by omega
          clear hNk hbk hy hqq hds hdt
          cases q with
          | true =>
            have Q2 := Lib.hid (show Sp.sha y = Sp.sha x from beq_iff_eq.1 Q1.out.symm)
            go_wp2_with fail
            refine wp_region_det (fun W => Ext wr W) (by kernel_rfl) (by kernel_rfl) (Ext.refl wr).drew ?_
            repeat (first
              | (refine det_step (fun K hK => ?_); (first | (refine det_load_mid rfl 36 (.tmp 27) rfl gd (od + k * 32) rfl ds _ (fun W hS => R1.out W hS) Tryz.underlying36 rfl (by rw [DL.out]; kernel_rfl) ?_) | (refine det_load_mid rfl 36 (.tmp 31) rfl gd (od + i * 32) rfl dt _ (fun W hS => R2.out W hS) Tryz.underlying36 rfl (by rw [DM.out]; kernel_rfl) ?_)); go_simp; refine hK _ ?_; clear hK K)
              | (refine det_step (fun K hK => ?_)
                 apply Exists.intro
                 refine ⟨Or.inl ⟨rfl, fun W hS => ?_⟩, ?_⟩
                 · have hz : Ext wr W := hS; have s1 := S1.out W hz; have s2 := S2.out W hz
                   go_simp
                   first
                   | exact rfl
                   | exact ⟨rfl, hS⟩
                   | (fail)
                 go_simp
                 refine hK _ ?_
                 clear hK K)
              | (refine det_step (fun K hK => ?_); refine det_no' rfl ?_; go_simp; refine hK _ ?_; clear hK K))
            refine det_nil ?_
            intro W9 hS
            replace hS : Ext wr W9 := hS
            have B9 := Lib.hid (HBK.out.trans hS)
            clear hS
            go_wp2_with fail
            · go_ret
              exact ⟨true, rfl, fun _ => rfl, B7.out.trans B9.out⟩
            · have heq : y = x := by
                have h : (!(y == x)) = false := by assumption
                have : (y == x) = true := by
                  revert h
                  cases (y == x) <;> simp
                exact beq_iff_eq.1 this
              refine ⟨⟨k + 1, by omega, by go_num, fun k' hk' => ?_, B9.out⟩, by simp [intOf]; omega⟩
              rcases Nat.lt_or_ge k' k with h | h
              · exact HNK.out k' h
              · obtain rfl : k' = k := by omega
                rw [CL.out]
                exact fun h => h.2 heq
          | false =>
            have Q2 := Lib.hid (show Sp.sha y ≠ Sp.sha x from fun e => by have := Q1.out; rw [e, beq_self_eq_true] at this; cases this)
            go_wp2_with fail
            refine wp_region_det (fun W => Ext wr W) (by kernel_rfl) (by kernel_rfl) (Ext.refl wr).drew ?_
            repeat (first
              | (refine det_step (fun K hK => ?_); (first | (refine det_load_mid rfl 36 (.tmp 27) rfl gd (od + k * 32) rfl ds _ (fun W hS => R1.out W hS) Tryz.underlying36 rfl (by rw [DL.out]; kernel_rfl) ?_) | (refine det_load_mid rfl 36 (.tmp 31) rfl gd (od + i * 32) rfl dt _ (fun W hS => R2.out W hS) Tryz.underlying36 rfl (by rw [DM.out]; kernel_rfl) ?_)); go_simp; refine hK _ ?_; clear hK K)
              | (refine det_step (fun K hK => ?_)
                 apply Exists.intro
                 refine ⟨Or.inl ⟨rfl, fun W hS => ?_⟩, ?_⟩
                 · have hz : Ext wr W := hS; have s1 := S1.out W hz; have s2 := S2.out W hz
                   go_simp
                   first
                   | exact rfl
                   | exact ⟨rfl, hS⟩
                   | (fail)
                 go_simp
                 refine hK _ ?_
                 clear hK K)
              | (refine det_step (fun K hK => ?_); refine det_no' rfl ?_; go_simp; refine hK _ ?_; clear hK K))
            refine det_nil ?_
            intro W9 hS
            replace hS : Ext wr W9 := hS
            have B9 := Lib.hid (HBK.out.trans hS)
            clear hS
            go_wp2
            go_roundw
            case rel =>
              refine ⟨k + 1, by omega, by go_num, fun k' hk' => ?_, B9.out⟩
              rcases Nat.lt_or_ge k' k with h | h
              · exact HNK.out k' h
              · obtain rfl : k' = k := by omega
                rw [CL.out]
                exact fun h => Q2.out h.1
            case measure => simp [intOf]; omega
        · obtain rfl : k = i := by omega
          have O9 := Lib.hid (own_ext O8.out hbk)
          have B9 := Lib.hid (B7.out.trans hbk)
          clear hNk hbk
          go_wp2
          go_roundw
          case rel =>
            refine ⟨k + 1, by omega, by go_num, O9.out, fun i' k' h1 h2 => ?_, B9.out⟩
            rcases Nat.lt_or_ge i' k with h | h
            · exact HN.out i' k' h h2
            · obtain rfl : i' = k := by omega
              exact HNK.out k' h2
          case measure => simp [intOf]; omega
    · obtain rfl : i = l.length := by omega
      have NC := Lib.hid (show ¬ Sp.clashS l = true from fun hc => by
        obtain ⟨i', k', h1, h2, h3⟩ := CS.out hc
        exact hN i' k' (by omega) h2 h3)
      clear hO hN hb HO HN
      go_wp2
      go_ret
      exact ⟨false, rfl, fun hc => absurd hc NC.out, HB.out⟩
end Go.Proofs.YtmlfnidckfeebaaGreatDoor
namespace Go.Proofs.YtmlfnidckfeebaaGreatDoor
open Go.RowKit
namespace Sp
theorem rise_ne {m : List DE} (h : RiseE (toP m)) : m.Pairwise fun a b => a.1 ≠ b.1 := by
  unfold RiseE toP at h
  rw [List.pairwise_map] at h
  refine h.imp fun {a b} hab e => ?_
  rw [e, cmpP_self] at hab
  cases hab
theorem rget_none {m : List DE} {p : Bs} (h : ∀ e ∈ m, e.1 ≠ p) : rget m p = [] := by
  induction m with
  | nil => rfl
  | cons e r ih => rw [rget, if_neg (h e (List.mem_cons_self ..))]; exact ih fun x hx => h x (List.mem_cons_of_mem _ hx)
end Sp
end Go.Proofs.YtmlfnidckfeebaaGreatDoor
namespace Go.Proofs.YtmlfnidckfeebaaGreatDoor
open Go.RowKit
namespace Sp
theorem differ_ne {oa ob : Option T} {ma mb : List DE} (PA : Both oa ma) (PB : Both ob mb) : (differT (oa.getD .nil) (ob.getD .nil)).Pairwise (· ≠ ·) := by
  refine (differ_rise PA PB).imp fun {x y} h e => ?_
  rw [e] at h
  unfold compare at h
  rw [cmpP_self] at h
  cases h
theorem rget_at {m : List DE} (h : m.Pairwise fun a b => a.1 ≠ b.1) {e : DE} (he : e ∈ m) : rget m e.1 = e.2 := by
  induction m with
  | nil => cases he
  | cons x r ih =>
    obtain ⟨h1, h2⟩ := List.pairwise_cons.1 h
    rw [rget]
    rcases List.mem_cons.1 he with rfl | he
    · rw [if_pos rfl]
    · rw [if_neg (h1 e he)]; exact ih h2 he
theorem nodup_len {α : Type} [DecidableEq α] : ∀ (a b : List α), a.Pairwise (· ≠ ·) → b.Pairwise (· ≠ ·) → (∀ x, x ∈ a ↔ x ∈ b) → a.length = b.length
  | [], [], _, _, _ => rfl
  | [], y :: s, _, _, h => absurd ((h y).2 (List.mem_cons_self ..)) (by simp)
  | x :: r, b, ha, hb, h => by
    obtain ⟨a1, a2⟩ := List.pairwise_cons.1 ha
    have hx : x ∈ b := (h x).1 (List.mem_cons_self ..)
    obtain ⟨p, q, rfl⟩ := List.append_of_mem hx
    obtain ⟨b1, b2, b3⟩ := List.pairwise_append.1 hb
    obtain ⟨b4, b5⟩ := List.pairwise_cons.1 b2
    have := nodup_len r (p ++ q) a2 (List.pairwise_append.2 ⟨b1, b5, fun u hu v hv => b3 u hu v (List.mem_cons_of_mem _ hv)⟩) fun z => by
      have hz := h z
      rw [List.mem_cons, List.mem_append, List.mem_cons] at hz
      rw [List.mem_append]
      constructor
      · intro hzr
        rcases hz.1 (.inr hzr) with h1 | h1 | h1
        · exact .inl h1
        · exact absurd h1.symm (a1 z hzr)
        · exact .inr h1
      · intro hpq
        have hne : z ≠ x := by
          rintro rfl
          rcases hpq with h1 | h1
          · exact b3 z h1 z (List.mem_cons_self ..) rfl
          · exact b4 z h1 rfl
        rcases hz.2 (hpq.imp id .inr) with h1 | h1
        · exact absurd h1 hne
        · exact h1
    rw [List.length_cons, this]
    simp
    omega
end Sp
end Go.Proofs.YtmlfnidckfeebaaGreatDoor
namespace Go.Proofs.YtmlfnidckfeebaaGreatDoor
open Go.RowKit Go.Shelf
attribute [local go_sem] yUpon strOf_toList
namespace Sp
theorem Both.pair {o : Option T} {m : List DE} (h : Both o m) : Pair o m := ⟨h.go, h.gm, h.eq⟩
/-- The paths of one list whose leaves the other one has not so. -/
def wantA (ma mb : List DE) : List Bs := (ma.filter fun e => !decide (e.2 = rget mb e.1)).map (·.1)
def moreB (ma mb : List DE) : Nat := (mb.filter fun e => decide (rget ma e.1 = [])).length
theorem all_count {oa ob : Option T} {ma mb : List DE} (PA : Both oa ma) (PB : Both ob mb) (hc : ∀ x ∈ textsT (oa.getD .nil), ∀ y ∈ textsT (ob.getD .nil), sha x = sha y → x = y) : (differT (oa.getD .nil) (ob.getD .nil)).length = (wantA ma mb).length + moreB ma mb := by
  have da := rise_ne PA.rise
  have db := rise_ne PB.rise
  have := nodup_len (differT (oa.getD .nil) (ob.getD .nil)) (wantA ma mb ++ (mb.filter fun e => decide (rget ma e.1 = [])).map (·.1)) (differ_ne PA PB) (List.pairwise_append.2 ⟨List.pairwise_map.2 (da.filter _), List.pairwise_map.2 (db.filter _), fun x hx y hy e => by
    obtain ⟨u, hu, rfl⟩ := List.mem_map.1 hx
    obtain ⟨v, hv, rfl⟩ := List.mem_map.1 hy
    obtain ⟨u1, _⟩ := List.mem_filter.1 hu
    have v2 := (List.mem_filter.1 hv).2
    rw [← e, rget_at da u1] at v2
    exact PA.full u u1 (by simpa using v2)⟩) fun p => by
      rw [differ_mem PA PB hc p, List.mem_append]
      constructor
      · rintro ⟨h0, h1⟩
        rcases rget_mem ma p with h2 | ⟨e, he, h2⟩
        · right
          rw [h2] at h1
          rcases rget_mem mb p with h3 | ⟨f, hf, h3⟩
          · exact absurd h3.symm h1
          · refine Decidable.byContradiction fun hno => ?_
            rw [rget_none fun x hx e => hno (List.mem_map.2 ⟨x, List.mem_filter.2 ⟨hx, by rw [e]; simpa using h2⟩, e⟩)] at h1
            exact h1 rfl
        · by_cases h4 : rget ma p = []
          · right
            refine Decidable.byContradiction fun hno => ?_
            rw [rget_none (m := mb) fun x hx e => hno (List.mem_map.2 ⟨x, List.mem_filter.2 ⟨hx, by rw [e]; simpa using h4⟩, e⟩)] at h1
            exact h1 h4
          · left
            refine Decidable.byContradiction fun hno => ?_
            refine h4 (rget_none fun x hx e => hno (List.mem_map.2 ⟨x, List.mem_filter.2 ⟨hx, ?_⟩, e⟩))
            have := rget_at da hx
            rw [e] at this
            rw [e, ← this]
            simpa using h1
      · rintro (h | h)
        · obtain ⟨e, he, rfl⟩ := List.mem_map.1 h
          obtain ⟨h1, h2⟩ := List.mem_filter.1 he
          refine ⟨PA.gm.1 e h1, ?_⟩
          rw [rget_at da h1]
          simpa using h2
        · obtain ⟨e, he, rfl⟩ := List.mem_map.1 h
          obtain ⟨h1, h2⟩ := List.mem_filter.1 he
          refine ⟨PB.gm.1 e h1, ?_⟩
          rw [rget_at db h1]
          have h3 : rget ma e.1 = [] := by simpa using h2
          rw [h3]
          exact fun h => PB.full e h1 h.symm
  rw [this, List.length_append, List.length_map]
  rfl
theorem wantA_take (ma mb : List DE) (k : Nat) (h : k < ma.length) : wantA (ma.take (k + 1)) mb = wantA (ma.take k) mb ++ if ma[k].2 = rget mb ma[k].1 then [] else [ma[k].1] := by
  unfold wantA
  rw [filter_take _ ma k h, List.map_append]
  by_cases hp : ma[k].2 = rget mb ma[k].1 <;> simp [hp]
theorem moreB_take (ma mb : List DE) (k : Nat) (h : k < mb.length) : moreB ma (mb.take (k + 1)) = moreB ma (mb.take k) + if rget ma mb[k].1 = [] then 1 else 0 := by
  unfold moreB
  rw [filter_take _ mb k h, List.length_append]
  by_cases hp : rget ma mb[k].1 = [] <;> simp [hp]
end Sp
set_option maxRecDepth 100000 in
set_option maxHeartbeats 4000000 in
theorem clash18_calls (oa ob : Option Sp.T) (ma mb : List Sp.DE) (PA : Sp.Both oa ma) (PB : Sp.Both ob mb) (A B : Option Addr) (c c' : Nat) (w : World) (hA : EntsAt w A ma) (hB : EntsAt w B mb) (K : KeysAt w 0) :
    Calls Tryz.prog 26 #[.slice A ma.length c, .slice B mb.length c'] w fun e w' => ∃ b, e = .returned (.bool b) ∧ (Sp.clashS (Sp.textsT (oa.getD .nil) ++ Sp.textsT (ob.getD .nil)) = true → b = true) ∧ Ext w w' := by
  have HB := Lib.hid hB
  have KK := Lib.hid K
  have LA := Lib.hid (Sp.texts_few PA.pair.ok PA.gm PA.pair.ent)
  have LB := Lib.hid (Sp.texts_few PB.pair.ok PB.gm PB.pair.ent)
  have XA := Lib.hid (rtexts_calls ma PA.gm A c 5 [] (oa.getD .nil) w (by omega) (.inl rfl) PA.pair.ok PA.pair.size (by rw [Sp.parts_empty]; exact PA.pair.ent) (by have := LA.out; omega) hA K)
  have XB := Lib.hid fun W (e : Ext w W) => rtexts_calls mb PB.gm B c' 5 [] (ob.getD .nil) W (by omega) (.inl rfl) PB.pair.ok PB.pair.size (by rw [Sp.parts_empty]; exact PB.pair.ent) (by have := LB.out; omega) (HB.out.ext e) (KK.out.ext e)
  have KS := Lib.hid (show ∀ x ∈ Sp.textsT (oa.getD .nil) ++ Sp.textsT (ob.getD .nil), x.length ≤ 4000000000 from fun x hx => by
    rcases List.mem_append.1 hx with hx | hx
    · exact Sp.texts_short _ PA.pair.ok PA.pair.size _ hx
    · exact Sp.texts_short _ PB.pair.ok PB.pair.size _ hx)
  obtain ⟨ta, hta⟩ : ∃ ta, ta = Sp.textsT (oa.getD .nil) := ⟨_, rfl⟩
  obtain ⟨tb, htb⟩ : ∃ tb, tb = Sp.textsT (ob.getD .nil) := ⟨_, rfl⟩
  rw [← hta] at LA XA KS ⊢
  rw [← htb] at LB XB KS ⊢
  clear hta htb PA PB hA hB K
  go_enter Tryz.func26, Tryz.ntmps26
  go_wp2_with fail
  refine XA.out.mono ?_
  rintro e w7 ⟨v7, rfl, hO7, hb7⟩
  have O7 := Lib.hid hO7
  have B7 := Lib.hid hb7
  clear hO7 hb7 XA
  go_wp2_with fail
  refine (XB.out w7 B7.out).mono ?_
  rintro e w8 ⟨v8, rfl, hO8, hb8⟩
  obtain ⟨A8, c8, rfl, hc8⟩ := own_read hO8
  have C8 := Lib.hid (show Cells w8 A8 (strsC tb) from hc8)
  have O78 := Lib.hid (own_ext O7.out hb8)
  have B8 := Lib.hid (B7.out.trans hb8)
  clear hO8 hb8 hc8 XB O7
  have tokA : True := trivial
  go_wp2_with (have _t := tokA; at_builtin; refine app_cells appStr rfl _ _ rfl _ v7 ta.length _ rfl O78.out A8 tb.length c8 (strsC tb) rfl (by rw [tstr_len, Nat.mul_one]) C8.out (tstr_one tb) (by have := LA.out; have := LB.out; omega) B8.out.size ?_; intro v9 w9 hown9 hgr9 hb9; rw [← List.length_append, ← tstr_cat] at hown9; obtain ⟨A9, c9, hv9, hc9⟩ := own_read hown9; subst hv9; have N9 := Lib.hid (show Nams w9 A9 (ta ++ tb) from hc9); have B9 := Lib.hid (show Ext _ w9 from Below.trans B8.out hb9); clear tokA _t hown9 hgr9 hb9 hc9)
  have G2 := Lib.hid (show (ta ++ tb).length ≤ 2000 by rw [List.length_append]; have := LA.out; have := LB.out; omega)
  have G3 := Lib.hid (rclash_any (ta ++ tb) A9 c9 w9 N9.out G2.out KS.out (KK.out.ext B9.out))
  rw [List.length_append] at G3
  refine G3.out.mono ?_
  rintro e w10 ⟨b, rfl, hc, hb10⟩
  have HC := Lib.hid hc
  have B10 := Lib.hid (B9.out.trans hb10)
  clear hc hb10
  go_wp2
  go_ret
  exact ⟨b, rfl, HC.out, B10.out⟩
end Go.Proofs.YtmlfnidckfeebaaGreatDoor
