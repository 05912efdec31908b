/- Walks: slices.Compact at names. Walks: Dirs, of the program and of the document. -/
import Derived.Test.YteiblfcehlibpaaGreatDoorWD46
import Derived.Test.YteiblfcehlibpaaGreatDoorWD25
import Derived.Test.YteiblfcehlibpaaGreatDoorWD37
namespace Go.Proofs.YteiblfcehlibpaaGreatDoor
open Go.RowKit Go.Shelf
attribute [local go_sem] yUpon strOf_toList
namespace Sp
/-- Without those that stand behind one that is the same. -/
def dd : Option Bs → List Bs → List Bs
  | _, [] => []
  | p, x :: r => if p = some x then dd p r else x :: dd (some x) r
theorem dd_snoc (x : Bs) : ∀ (l : List Bs) (p : Option Bs), dd p (l ++ [x]) = dd p l ++ if (if l = [] then p else l.getLast?) = some x then [] else [x]
  | [], p => by
    simp only [List.nil_append, dd, if_true]
  | y :: r, p => by
    rw [List.cons_append, dd, dd]
    have ih := dd_snoc x r
    have e : (if y :: r = [] then p else (y :: r).getLast?) = (if r = [] then some y else r.getLast?) := by
      cases r with
      | nil => simp
      | cons z t => simp
    rw [e]
    by_cases h : p = some y
    · rw [if_pos h, if_pos h, ih p]
      congr 1
      cases r with
      | nil => simp [h]
      | cons z t => simp
    · rw [if_neg h, if_neg h, ih (some y), List.cons_append]
theorem dd_take (l : List Bs) (k : Nat) (h : k < l.length) (h0 : 0 < k) : dd none (l.take (k + 1)) = dd none (l.take k) ++ if l[k - 1] = l[k] then [] else [l[k]] := by
  have hne : l.take k ≠ [] := by
    intro e
    have := congrArg List.length e
    rw [List.length_take, Nat.min_eq_left (by omega)] at this
    exact absurd this (by simp; omega)
  have h1 : (l.take k).getLast? = some l[k - 1] := by
    rw [List.getLast?_eq_getElem?, List.length_take, Nat.min_eq_left (by omega), List.getElem?_take, if_pos (by omega), List.getElem?_eq_getElem (by omega)]
  rw [List.take_succ_eq_append_getElem h, dd_snoc]
  simp only [if_neg hne, h1, Option.some.injEq]
theorem dd_len : ∀ (l : List Bs) (p : Option Bs), (dd p l).length ≤ l.length
  | [], _ => Nat.le_refl _
  | x :: r, p => by
    rw [dd]
    split
    · have := dd_len r p; simp; omega
    · have := dd_len r (some x); simp; omega
theorem dd_one (x : Bs) : dd none [x] = [x] := rfl
end Sp
theorem own_takeStr {w : World} {B g n cap : Nat} {l : List Sp.Bs} (h : w.ownsRow B 9 1 (.slice (some ⟨g, 0, none⟩) n cap) n (strsC l)) (k : Nat) (hk : k ≤ n) : w.ownsRow B 9 1 (.slice (some ⟨g, 0, none⟩) k cap) k (strsC (l.take k)) := by
  have := own_take h k hk
  rwa [Nat.mul_one, strsC, ← List.map_take] at this
theorem strsC_set (l : List Sp.Bs) (k : Nat) (s : Sp.Bs) : (strsC l).set k (.string (strOf s)) = strsC (l.set k s) := by
  unfold strsC
  rw [List.map_set]
theorem strsC_get (l : List Sp.Bs) (k : Nat) (h : k < l.length) : (strsC l)[k]? = some (.string (strOf l[k])) := by simp [strsC, h]
set_option maxRecDepth 100000 in
set_option maxHeartbeats 4000000 in
theorem compact_calls (l : List Sp.Bs) (v : Value) (B : Nat) (w : World) (hl : l.length ≤ 1000000) (ho : w.ownsRow B 9 1 v l.length (strsC l)) (hB : B ≤ w.heap.size) :
    Calls Tryz.prog 72 #[v] w fun e w' => ∃ v', e = .returned v' ∧ w'.ownsRow B 9 1 v' (Sp.dd none l).length (strsC (Sp.dd none l)) ∧ Below B w w' := by
  obtain ⟨A, cap, rfl, hc⟩ := own_read ho
  have HO := Lib.hid ho
  clear ho hc
  go_enter Tryz.func72, Tryz.ntmps72
  by_cases h2 : l.length < 2
  · have e1 : (l.length : Int) < 2 := by omega
    have DL := Lib.hid (show Sp.dd none l = l by
      match l, h2 with
      | [], _ => rfl
      | [x], _ => rfl)
    clear h2
    go_wp2_with fail
    go_ret
    exact ⟨_, rfl, by rw [DL.out]; exact HO.out, Below.refl _ _⟩
  · have e1 : ¬ (l.length : Int) < 2 := by omega
    have hpos : 0 < l.length := by omega
    obtain ⟨g, cap', eg', hgB⟩ := owned_form HO.out (by omega)
    cases eg'
    obtain ⟨hnc, hcm⟩ := own_cap HO.out
    go_wp2_with fail
    go_loopw [3] (fun v3 wr => ∃ k : Nat, 1 ≤ k ∧ k ≤ l.length ∧ v3 = .int .i64 k ∧ Sp.dd none (l.take k) = l.take k ∧ Ext w wr) (fun v3 _ => l.length - (intOf v3).toNat)
    case atStart => exact ⟨1, Nat.le_refl _, by omega, rfl, by
      match l, hpos with
      | x :: r, _ => rfl, Ext.refl _⟩
    case round =>
      obtain ⟨k, hk1, hkl, rfl, hdd, hb⟩ := hrel
      have DD := Lib.hid hdd
      have EW := Lib.hid hb
      clear hdd hb
      by_cases hlt : k < l.length
      · have O1 := Lib.hid (own_ext HO.out EW.out)
        obtain ⟨c0, _, _, _⟩ := own_isBlk O1.out k _ (strsC_get l k hlt)
        obtain ⟨c1, _, _, _⟩ := own_isBlk O1.out (k - 1) _ (strsC_get l (k - 1) (by omega))
        have DT := Lib.hid (Sp.dd_take l k hlt hk1)
        obtain ⟨x, hx⟩ : ∃ x, x = l[k] := ⟨_, rfl⟩
        obtain ⟨y, hy⟩ : ∃ y, y = l[k - 1] := ⟨_, rfl⟩
        rw [← hx] at c0
        rw [← hy] at c1
        have HX := Lib.hid hx
        have HY := Lib.hid hy
        obtain ⟨j, hj⟩ : ∃ j, j = k - 1 := ⟨_, rfl⟩
        rw [← hj] at c1
        have C0 := Lib.hid c0
        have C1 := Lib.hid c1
        have w1 : IntKind.i64.wrap ((k : Int) - 1) = (j : Int) := by rw [show (k : Int) - 1 = (j : Int) by omega]; exact IntWalk.i64_in _ (by omega)
        have b1 : (k : Int) < (l.length : Int) := by omega
        have b2 : (j : Int) < (l.length : Int) := by omega
        have HJ := Lib.hid hj
        clear hx hy c0 c1 hj
        go_wp2_with fail
        refine wp_region_det (fun W => Ext wr W) (by kernel_rfl) (by kernel_rfl) (Below.refl _ _).drew ?_
        repeat (first
          | (refine det_step (fun K hK => ?_)
             apply Exists.intro
             refine ⟨Or.inl ⟨rfl, fun W hS => ?_⟩, ?_⟩
             · replace hS : Ext wr W := hS
               have z0 := hS.cell C0.out; have z1 := hS.cell C1.out
               go_simp
               first
               | exact rfl
               | exact ⟨rfl, hS⟩
               | (fail)
             go_simp
             refine hK _ ?_
             clear hK K)
          | (refine det_step (fun K hK => ?_); refine det_no' rfl ?_; go_simp; refine hK _ ?_; clear hK K))
        refine det_nil ?_
        intro W9 hS
        replace hS : Ext _ W9 := hS
        have EW9 := Lib.hid (EW.out.trans hS)
        clear hS
        go_wp2_with fail
        · rename_i hxy _ _
          have K0 := Lib.hid (show Sp.dd none (l.take (k + 1)) = l.take k by
            rw [DT.out, if_pos (by rw [← HX.out, ← HY.out]; exact (beq_iff_eq.1 hxy).symm), List.append_nil, DD.out])
          have O9 := Lib.hid (own_ext HO.out EW9.out)
          have bk : (k : Int) ≤ (cap : Int) := by omega
          have bk2 : k ≤ cap := by omega
          have bk3 : ¬ cap = k := by omega
          have bk4 : (l.length : Int) ≤ (cap : Int) := by omega
          clear hxy b2
          go_loopw [3, 5] (fun v3 v5 wr => ∃ kk k2 zs, 1 ≤ k2 ∧ k2 ≤ l.length - k ∧ k ≤ kk ∧ kk ≤ k + k2 - 1 ∧ v3 = .int .i64 (kk : Nat) ∧ v5 = .int .i64 (k2 : Nat) ∧ kk = (Sp.dd none (l.take (k + k2))).length ∧ List.length zs = l.length ∧ zs.take kk = Sp.dd none (l.take (k + k2)) ∧ zs.drop (k + k2 - 1) = l.drop (k + k2 - 1) ∧ wr.ownsRow B 9 1 (.slice (some ⟨g, 0, none⟩) l.length cap) l.length (strsC zs) ∧ Below B w wr) (fun _ v5 _ => l.length - (intOf v5).toNat)
          case atStart => exact ⟨k, 1, l, Nat.le_refl _, by omega, Nat.le_refl _, by omega, rfl, rfl, by rw [K0.out, List.length_take]; omega, rfl, K0.out.symm, rfl, O9.out, EW9.out.mono hB⟩
          case round =>
            obtain ⟨kk, k2, zs, h21, h2l, hkk, hkk2, rfl, rfl, hkl2, hzl, hzt, hzd, hO, hbw⟩ := hrel
            have OZ := Lib.hid hO
            have BW := Lib.hid hbw
            have ZT := Lib.hid hzt
            have ZD := Lib.hid hzd
            have KL := Lib.hid hkl2
            clear hO hbw hzt hzd hkl2
            by_cases hlt2 : k2 < l.length - k
            · obtain ⟨i, hi⟩ : ∃ i, i = k + k2 := ⟨_, rfl⟩
              have hil : i < l.length := by omega
              have hz0 : zs[i - 1]'(by omega) = l[i - 1] ∧ zs[i]'(by omega) = l[i] := by
                have hd := ZD.out
                have e0 : k + k2 - 1 = i - 1 := by omega
                rw [e0] at hd
                constructor
                · have h1 : (zs.drop (i - 1))[0]? = (l.drop (i - 1))[0]? := by rw [hd]
                  rw [List.getElem?_drop, List.getElem?_drop, Nat.add_zero, List.getElem?_eq_getElem (by omega), List.getElem?_eq_getElem (by omega)] at h1
                  exact Option.some.inj h1
                · have h1 : (zs.drop (i - 1))[1]? = (l.drop (i - 1))[1]? := by rw [hd]
                  rw [List.getElem?_drop, List.getElem?_drop, show i - 1 + 1 = i by omega, List.getElem?_eq_getElem (by omega), List.getElem?_eq_getElem (by omega)] at h1
                  exact Option.some.inj h1
              have hzd2 : zs.drop (k + (k2 + 1) - 1) = l.drop (k + (k2 + 1) - 1) := by
                have := congrArg (List.drop 1) ZD.out
                rw [List.drop_drop, List.drop_drop] at this
                rwa [show k + k2 - 1 + 1 = k + (k2 + 1) - 1 by omega] at this
              have DT2 := Lib.hid (Sp.dd_take l i hil (by omega))
              obtain ⟨c0, _, _, _⟩ := own_isBlk OZ.out i _ (strsC_get zs i (by omega))
              obtain ⟨c1, _, _, _⟩ := own_isBlk OZ.out (i - 1) _ (strsC_get zs (i - 1) (by omega))
              rw [hz0.2] at c0
              rw [hz0.1] at c1
              obtain ⟨x2, hx2⟩ : ∃ x2, x2 = l[i] := ⟨_, rfl⟩
              obtain ⟨y2, hy2⟩ : ∃ y2, y2 = l[i - 1] := ⟨_, rfl⟩
              rw [← hx2] at c0 DT2
              rw [← hy2] at c1 DT2
              obtain ⟨j2, hj2⟩ : ∃ j2, j2 = k2 - 1 := ⟨_, rfl⟩
              rw [hi] at c0
              rw [show i - 1 = k + j2 by omega] at c1
              have C0 := Lib.hid c0
              have C1 := Lib.hid c1
              obtain ⟨zk, hzk⟩ : ∃ zk, (strsC zs)[kk]? = some zk := ⟨_, List.getElem?_eq_getElem (by simp [strsC]; omega)⟩
              obtain ⟨s0, s1, _, _⟩ := own_isBlk OZ.out kk _ hzk
              have S0 := Lib.hid s0
              have S1 := Lib.hid s1
              have ZD2 := Lib.hid hzd2
              have HJ2 := Lib.hid hj2
              have HI := Lib.hid hi
              obtain ⟨nk, hnk⟩ : ∃ nk, nk = l.length - k := ⟨_, rfl⟩
              have w2 : IntKind.i64.wrap ((k2 : Int) - 1) = (j2 : Int) := by rw [show (k2 : Int) - 1 = (j2 : Int) by omega]; exact IntWalk.i64_in _ (by omega)
              have b1 : (k2 : Int) < ((l.length - k : Nat) : Int) := by omega
              have b2 : (j2 : Int) < ((l.length - k : Nat) : Int) := by omega
              have b3 : (kk : Int) < (l.length : Int) := by omega
              clear hz0 hzd2 c0 c1 hx2 hy2 hj2 hi hzk s0 s1 hnk
              go_wp2_with fail
              refine wp_region_det (fun W => Ext wr W) (by kernel_rfl) (by kernel_rfl) (Below.refl _ _).drew ?_
              repeat (first
                | (refine det_step (fun K hK => ?_)
                   apply Exists.intro
                   refine ⟨Or.inl ⟨rfl, fun W hS => ?_⟩, ?_⟩
                   · replace hS : Ext wr W := hS
                     have z0 := hS.cell C0.out; have z1 := hS.cell C1.out
                     go_simp
                     first
                     | exact rfl
                     | exact ⟨rfl, hS⟩
                     | (fail)
                   go_simp
                   refine hK _ ?_
                   clear hK K)
                | (refine det_step (fun K hK => ?_); refine det_no' rfl ?_; go_simp; refine hK _ ?_; clear hK K))
              refine det_nil ?_
              intro W9 hS
              replace hS : Ext _ W9 := hS
              have O10 := Lib.hid (own_ext OZ.out hS)
              have B10 := Lib.hid (BW.out.trans (Below.mono hS (Nat.le_trans hB BW.out.size)))
              have z0 := hS.cell C0.out
              have s0 := hS.cell S0.out
              have s1 := (own_isBlk O10.out kk zk (by
                obtain ⟨u, hu⟩ : ∃ u, (strsC zs)[kk]? = some u := ⟨_, List.getElem?_eq_getElem (by simp [strsC]; omega)⟩
                have := (own_isBlk OZ.out kk u hu).1
                rw [S0.out] at this
                rw [hu, ← Option.some.inj this])).2.1
              clear hS
              go_wp2_with fail
              · have hne : x2 ≠ y2 := by
                  have h : (!(x2 == y2)) = true := by assumption
                  intro e
                  rw [e, beq_self_eq_true] at h
                  cases h
                have DS := Lib.hid (show Sp.dd none (l.take (k + (k2 + 1))) = Sp.dd none (l.take (k + k2)) ++ [x2] by
                  have := DT2.out
                  rw [if_neg (fun e => hne e.symm), HI.out] at this
                  exact this)
                go_roundw
                case rel =>
                  refine ⟨kk + 1, k2 + 1, zs.set kk x2, by omega, by omega, by omega, by omega, by go_num, by go_num, by rw [DS.out, List.length_append, ← KL.out]; rfl, by rw [List.length_set]; exact hzl, ?_, ?_, ?_, B10.out.setCell hgB _⟩
                  · rw [DS.out, ← ZT.out, List.take_succ_eq_append_getElem (by rw [List.length_set]; omega), List.take_set_of_le (Nat.le_refl _)]
                    simp
                  · rw [List.drop_set_of_lt (by omega)]
                    exact ZD2.out
                  · rw [← strsC_set]
                    exact own_set O10.out kk (by simp [strsC]; omega) _
                case measure => simp [intOf]; omega
              · have heq : y2 = x2 := by
                  have h : (!(x2 == y2)) = false := by assumption
                  have : (x2 == y2) = true := by
                    revert h
                    cases (x2 == y2) <;> simp
                  exact (beq_iff_eq.1 this).symm
                have DS := Lib.hid (show Sp.dd none (l.take (k + (k2 + 1))) = Sp.dd none (l.take (k + k2)) by
                  have := DT2.out
                  rw [if_pos heq, HI.out, List.append_nil] at this
                  exact this)
                go_roundw
                case rel => exact ⟨kk, k2 + 1, zs, by omega, by omega, by omega, by omega, rfl, by go_num, by rw [DS.out]; exact KL.out, hzl, by rw [DS.out]; exact ZT.out, ZD2.out, O10.out, B10.out⟩
                case measure => simp [intOf]; omega
            · obtain rfl : k2 = l.length - k := by omega
              have DL := Lib.hid (show Sp.dd none (l.take (k + (l.length - k))) = Sp.dd none l by rw [show k + (l.length - k) = l.length by omega, List.take_length])
              have b3 : (kk : Int) ≤ (l.length : Int) := by omega
              have b4 : (kk : Int) ≤ (cap : Int) := by omega
              have b5 : kk ≤ cap := by omega
              have b6 : ¬ cap = kk := by omega
              have b7 : kk < l.length := by omega
              obtain ⟨ht, _, _, i0, z, hi0, hz, hsz, hby, hzs⟩ := appStr
              have hz1 : z = .string ⟨#[]⟩ := by
                have h0 : (Tryz.prog.info? 9).map (fun i => i.zero) = some (some (.string ⟨#[]⟩)) := by kernel_rfl
                rw [hi0] at h0
                simp only [Option.map_some, Option.some.injEq] at h0
                rw [hz] at h0
                exact Option.some.inj h0
              have hz3 := Lib.hid (show ∀ W, (zeroValue 9).run Tryz.prog W = .ok z W from fun W => by simp [zeroValue, typeInfo, hi0, hz])
              have CR := Lib.hid (Lib.run_clear_slice (P := Tryz.prog) wr 32 9 0 z ht hz3.out (by rw [hz1]; rfl) (by rw [hz1]; rfl) g kk (l.length - kk) (cap - kk) (by omega) (fun m hm => by
                have hm2 : kk + m < (strsC zs).length := by simp [strsC]; omega
                rw [(own_isBlk OZ.out (kk + m) _ (List.getElem?_eq_getElem hm2)).1]; rfl) (fun m hm => by
                have hm2 : kk + m < (strsC zs).length := by simp [strsC]; omega
                exact (own_isBlk OZ.out (kk + m) _ (List.getElem?_eq_getElem hm2)).2.1))
              have tokC : True := trivial
              clear hz1
              go_wp2_with (have _tc := tokC; refine clear_run _ rfl (.tmp 56) 32 rfl (.slice (some ⟨g, kk, none⟩) (l.length - kk) (cap - kk)) (by go_simp) _ _ CR.out ?_; clear tokC _tc)
              go_ret
              obtain ⟨_, hbk⟩ := OZ.out
              rcases hbk with ⟨hb0, _⟩ | ⟨g', cap', cur, hv, hBg, hh, _, _, hs, ht2⟩
              · cases hb0
              cases hv
              have X1 := Lib.hid (isBlk.puts (List.replicate (l.length - kk) z) kk hh)
              have KL2 := Lib.hid (show (Sp.dd none l).length = kk by rw [← DL.out]; exact KL.out.symm)
              rw [Nat.mul_one] at hs ht2
              refine ⟨_, rfl, ⟨by simp [strsC], .inr ⟨g, cap, _, by rw [KL2.out]; rfl, hgB, X1.out, by rw [KL2.out]; exact b5, hcm, by rw [putsA_size, Nat.mul_one]; exact hs, ?_⟩⟩, BW.out.trans ((Only.sets g _ _ wr).below hgB (Nat.le_trans hB BW.out.size))⟩
              have e3 : strsC (Sp.dd none l) = (strsC zs).take kk := by rw [← DL.out, ← ZT.out, strsC, strsC, List.map_take]
              rw [KL2.out, Nat.mul_one, e3, ← ht2, List.take_take, Nat.min_eq_left (by omega)]
              apply List.ext_getElem?
              intro m
              rw [List.getElem?_take, List.getElem?_take]
              by_cases hm : m < kk
              · rw [if_pos hm, if_pos hm, Array.getElem?_toList, Array.getElem?_toList, putsA_get _ _ _ _ (by rw [hs, List.length_replicate]; omega), if_neg (by omega)]
              · rw [if_neg hm, if_neg hm]
        · rename_i hxy
          have ne : y ≠ x := by
            intro e
            rw [e, beq_self_eq_true] at hxy
            cases hxy
          have K1 := Lib.hid (show Sp.dd none (l.take (k + 1)) = l.take (k + 1) by
            rw [DT.out, if_neg (by rw [← HX.out, ← HY.out]; exact ne), DD.out, List.take_succ_eq_append_getElem hlt])
          clear hxy ne
          go_roundw
          case rel => exact ⟨k + 1, by omega, by omega, by go_num, K1.out, EW9.out⟩
          case measure => simp [intOf]; omega
      · obtain rfl : k = l.length := by omega
        have DL := Lib.hid (show Sp.dd none l = l by have := DD.out; rwa [List.take_length] at this)
        go_wp2
        go_ret
        exact ⟨_, rfl, by rw [DL.out]; exact own_ext HO.out EW.out, EW.out.mono hB⟩
end Go.Proofs.YteiblfcehlibpaaGreatDoor
namespace Go.Proofs.YteiblfcehlibpaaGreatDoor
open Go.RowKit Go.Shelf
attribute [local go_sem] yUpon strOf_toList
namespace Sp
/-- The names so deep, of the paths that go on behind them. -/
def dnames (deep : Nat) (l : List DE) : List Bs := l.flatMap fun e => if deep + 1 < (parts e.1).length then [(parts e.1).getD deep []] else []
theorem dnames_take (deep : Nat) (l : List DE) (k : Nat) (h : k < l.length) : dnames deep (l.take (k + 1)) = dnames deep (l.take k) ++ if deep + 1 < (parts l[k].1).length then [(parts l[k].1).getD deep []] else [] := by
  unfold dnames
  rw [List.take_succ_eq_append_getElem h, List.flatMap_append]
  congr 1
  simp
theorem dnames_len (deep : Nat) : ∀ l : List DE, (dnames deep l).length ≤ l.length
  | [] => Nat.le_refl _
  | x :: r => by
    have ih := dnames_len deep r
    have e : dnames deep (x :: r) = (if deep + 1 < (parts x.1).length then [(parts x.1).getD deep []] else []) ++ dnames deep r := by unfold dnames; rw [List.flatMap_cons]
    rw [e, List.length_append, List.length_cons]
    split
    · simp only [List.length_cons, List.length_nil]; omega
    · simp only [List.length_nil]; omega
def ddf (l : List Bs) : List Bs := l.foldl nxt []
theorem dd_fold : ∀ (l out : List Bs), out ++ dd out.getLast? l = l.foldl nxt out
  | [], out => by rw [dd, List.append_nil]; rfl
  | x :: r, out => by
    rw [dd, List.foldl_cons]
    by_cases h : out.getLast? = some x
    · rw [if_pos h, dd_fold r out, nxt, if_pos h]
    · rw [if_neg h, nxt, if_neg h, ← dd_fold r (out ++ [x])]
      simp
theorem dd_ddf (l : List Bs) : dd none l = ddf l := by
  have := dd_fold l []
  simpa [ddf] using this
theorem ddf_snoc (l : List Bs) (x : Bs) : ddf (l ++ [x]) = nxt (ddf l) x := by unfold ddf; rw [List.foldl_append]; rfl
theorem ddf_len (l : List Bs) : (ddf l).length ≤ l.length := by rw [← dd_ddf]; exact dd_len l none
def dirsS (m : List DE) (d : Bs) : List Bs := ddf (dnames (parts d).length (wunder m d))
end Sp
theorem pparts_calls (s : Sp.Bs) (w : World) (M : MaxAt w) : Calls Tryz.prog 71 #[.string (strOf s)] w fun e w' => ∃ A c, e = .returned (.slice A (Sp.parts s).length c) ∧ Nams w' A (Sp.parts s) ∧ Ext w w' :=
  (parts_calls (strOf s) w M).mono (by
    intro e w1 ht
    obtain ⟨A, c, h1, _, h2, h3⟩ := ht.nams
    rw [strOf_data] at h1 h2
    exact ⟨A, c, h1, h2, h3⟩)
theorem rpparts_calls (s : Sp.Bs) (w : World) (hs : s.length ≤ 1000000) : Calls Tryz.prog 37 #[.string (strOf s)] w fun e w' => ∃ A c, e = .returned (.slice A (Sp.parts s).length c) ∧ Nams w' A (Sp.parts s) ∧ Ext w w' :=
  (rparts_calls (strOf s) w (by rw [strOf_size]; omega)).mono (by
    intro e w1 ht
    obtain ⟨A, c, h1, _, h2, h3⟩ := ht.nams
    rw [strOf_data] at h1 h2
    exact ⟨A, c, h1, h2, h3⟩)
set_option maxRecDepth 100000 in
set_option maxHeartbeats 4000000 in
theorem wdirs_calls (o : Option Sp.T) (v : Value) (d : Sp.Bs) (w : World) (hT : TreeAt w v o) (hg : Sp.GoodO o) (hd : ∀ x ∈ Sp.entriesO o, x.1.length ≤ 60) (hs : ∀ e ∈ Sp.told o, e.1.length ≤ 1000) (hl : (Sp.told o).length ≤ 1000) (K : KeysAt w 4) (M : MaxAt w) :
    Calls Tryz.prog 33 #[v, .string (strOf d)] w fun e w' => ∃ B c, e = .returned (.slice B (Sp.dirsS (Sp.told o) d).length c) ∧ Nams w' B (Sp.dirsS (Sp.told o) d) ∧ Ext w w' := by
  have UC := Lib.hid fun W (e : Ext w W) => wunder_calls o v d W (hT.ext e) hg hd hs hl (K.ext e) (max_kept M e)
  have PD := Lib.hid (pparts_calls d w M)
  have MM := Lib.hid M
  have hD4 := Sp.parts_len d
  have u1 := Sp.wunder_len (Sp.told o) d
  have DS := Lib.hid (show Sp.dirsS (Sp.told o) d = Sp.dd none (Sp.dnames (Sp.parts d).length (Sp.wunder (Sp.told o) d)) by rw [Sp.dd_ddf]; rfl)
  have D0 := Lib.hid (show d = [] → (Sp.parts d).length = 0 from fun h => by rw [h, Sp.parts_empty]; rfl)
  obtain ⟨a, rfl⟩ := tree_ptr hT
  obtain ⟨l, hll⟩ : ∃ l, l = Sp.wunder (Sp.told o) d := ⟨_, rfl⟩
  obtain ⟨dp, hdp⟩ : ∃ dp, dp = (Sp.parts d).length := ⟨_, rfl⟩
  rw [← hll] at UC DS u1
  rw [← hdp] at PD DS hD4 D0
  clear hT hg hd hs K M hll hdp
  go_enter Tryz.func33, Tryz.ntmps33
  go_upto_if 11 with fail
  go_cut [5, 11] (fun v5 _ wx => v5 = .int .i64 dp ∧ Ext w wx)
  case first =>
    go_wp2_with fail
    · refine PD.out.mono ?_
      rintro e w1 ⟨A1, c1, rfl, _, hb1⟩
      go_wp2
      go_meet
      case rel => exact ⟨rfl, hb1⟩
    · have e0 : dp = 0 := D0.out (by
        have h : (!List.isEmpty d) = false := by assumption
        cases d with
        | nil => rfl
        | cons _ _ => cases h)
      go_meet
      case rel => exact ⟨by rw [e0]; rfl, Ext.refl _⟩
  case rest =>
    obtain ⟨rfl, hbx⟩ := hcut
    obtain ⟨wx, hwx⟩ : ∃ wx, wx = wc := ⟨_, rfl⟩
    rw [← hwx] at hbx ⊢
    have BX := Lib.hid hbx
    clear hbx hwx
    go_wp2_with fail
    refine (UC.out wx BX.out).mono ?_
    rintro e w2 ⟨v2, rfl, hO, hb2⟩
    obtain ⟨A2, c2, rfl, hE⟩ := hO.read
    have HE := Lib.hid hE
    have B2 := Lib.hid (BX.out.trans hb2)
    clear hO hE hb2
    go_wp2
    go_loopw [6, 19] (fun v6 v19 wr => ∃ k : Nat, k ≤ l.length ∧ v19 = .int .i64 k ∧ wr.ownsRow w2.heap.size 9 1 v6 (Sp.dnames dp (l.take k)).length (strsC (Sp.dnames dp (l.take k))) ∧ Ext w2 wr) (fun _ v19 _ => l.length - (intOf v19).toNat)
    case atStart => exact ⟨0, Nat.zero_le _, rfl, World.ownsRow_nil _ _ _ _, Ext.refl _⟩
    case round =>
      obtain ⟨k, hk, rfl, hO, hb⟩ := hrel
      by_cases hlt : k < l.length
      · obtain ⟨eb, eo, rfl, he⟩ := HE.out.at (by omega)
        obtain ⟨Av, cv, c0, c1, _⟩ := he k hlt
        have c0 := hb.cell c0
        have c1 := hb.cell c1
        have st := Sp.dnames_take dp l k hlt
        have nl := Sp.dnames_len dp (l.take k)
        rw [List.length_take] at nl
        obtain ⟨x, hx⟩ : ∃ x, x = l[k] := ⟨_, rfl⟩
        rw [← hx] at c0 c1 st
        obtain ⟨out, hout⟩ : ∃ out, out = Sp.dnames dp (l.take k) := ⟨_, rfl⟩
        rw [← hout] at st nl hO
        obtain ⟨P, hP⟩ : ∃ P, P = Sp.parts x.1 := ⟨_, rfl⟩
        have PC := Lib.hid fun W M => pparts_calls x.1 W M
        have hP4 := Sp.parts_len x.1
        rw [← hP] at st PC hP4
        have ST := Lib.hid st
        have OO := Lib.hid hO
        have EW := Lib.hid hb
        have b1 : (k : Int) < (l.length : Int) := by omega
        clear he hx hO hb hout hP st
        go_upto_region 8 with fail
        obtain ⟨w6, hw6⟩ : ∃ w6, w6 = wr.alloc (.cells #[.string (strOf x.1), .slice Av x.2.length cv] 51) := ⟨_, rfl⟩
        have X6 := Lib.hid (show isBlk w6 wr.heap.size 51 #[.string (strOf x.1), .slice Av x.2.length cv] by rw [hw6]; exact box_at wr _ _)
        have E6 := Lib.hid (show Ext wr w6 by rw [hw6]; exact Ext.alloc _ _)
        rw [← hw6]
        clear hw6 c0 c1
        have k0 := (X6.out.cell 0).trans rfl
        go_wp2_with fail
        refine (PC.out w6 (max_kept MM.out (B2.out.trans (EW.out.trans E6.out)))).mono ?_
        rintro e w7 ⟨A7, c7, rfl, hN7, hb7⟩
        have N7 := Lib.hid hN7
        have E7 := Lib.hid (E6.out.trans hb7)
        have O7 := Lib.hid (own_ext OO.out E7.out)
        clear hN7 hb7 k0
        have dp1 : IntKind.i64.wrap ((dp : Int) + 1) = (dp : Int) + 1 := IntWalk.i64_in _ (by omega)
        by_cases hgt : dp + 1 < P.length
        · have b2 : (dp : Int) + 1 < (P.length : Int) := by omega
          have b3 : (dp : Int) < (P.length : Int) := by omega
          obtain ⟨pb, po, rfl, hpn⟩ := N7.out.at (by omega)
          have p0 := hpn dp (by omega)
          have ST2 := Lib.hid (show Sp.dnames dp (l.take (k + 1)) = out ++ [P[dp]] by
            rw [ST.out, if_pos hgt]
            simp [List.getD_eq_getElem?_getD, show dp < P.length by omega])
          obtain ⟨s, hs⟩ : ∃ s, s = P[dp]'(by omega) := ⟨_, rfl⟩
          rw [← hs] at p0 ST2
          obtain ⟨A8, c8, rfl, _⟩ := own_read O7.out
          have tok : True := trivial
          clear hpn hs hgt
          go_wp2_with (have _t := tok; at_builtin; refine app_new appStr rfl _ _ rfl w2.heap.size _ out.length _ rfl O7.out #[.string (strOf s)] 9 1 rfl rfl (by intro u hu; simp at hu; subst hu; rfl) (by decide) (by omega) (EW.out.trans E7.out).size ?_; intro g9 cap9 w9 hown9 hgr9 hb9 hbg9; have O9 := Lib.hid hown9; have G9 := Lib.hid hgr9; have B9 := Lib.hid hb9; clear tok _t hown9 hgr9 hb9 hbg9)
          go_roundw
          case rel =>
            refine ⟨k + 1, by omega, by go_num, ?_, Below.trans (EW.out.trans E7.out) B9.out⟩
            rw [ST2.out, List.length_append, strsC, List.map_append]
            exact O9.out
          case measure => simp [intOf]; omega
        · have b2 : ¬ (dp : Int) + 1 < (P.length : Int) := by omega
          have ST2 := Lib.hid (show Sp.dnames dp (l.take (k + 1)) = out by rw [ST.out, if_neg hgt, List.append_nil])
          clear hgt
          go_wp2
          go_roundw
          case rel => exact ⟨k + 1, by omega, by go_num, by rw [ST2.out]; exact O7.out, EW.out.trans E7.out⟩
          case measure => simp [intOf]; omega
      · obtain rfl : k = l.length := by omega
        rw [List.take_length] at hO
        have CC := Lib.hid (compact_calls (Sp.dnames dp l) u6 w2.heap.size wr (Nat.le_trans (Sp.dnames_len dp l) (by omega)) hO hb.size)
        have EW := Lib.hid hb
        clear hO hb
        go_wp2_with fail
        refine CC.out.mono ?_
        rintro e w9 ⟨v9, rfl, hO9, hb9⟩
        rw [← DS.out] at hO9
        obtain ⟨A9, c9, rfl, hN9⟩ := own_read hO9
        have N9 := Lib.hid hN9
        have E9 := Lib.hid (B2.out.trans (Below.trans EW.out hb9))
        clear hO9 hN9 hb9
        go_wp2
        go_ret
        exact ⟨A9, c9, rfl, N9.out, E9.out⟩
end Go.Proofs.YteiblfcehlibpaaGreatDoor
