/- Walks: the document's nodes. Walks: nodes' digests. Walks: which of two paths stands ahead. What the document finds at a directory of its list, and what the tree has there: plain. Walks: the document's trees: what stands at a path; a name below a directory; what is below one. Walks: the document's word for 'below a directory'. Walks: the names right below a directory, the document's. -/
import Derived.Test.YtmlfnidckfeebaaGreatDoorQQ018
import Derived.Test.YtmlfnidckfeebaaGreatDoorQQ029
namespace Go.Proofs.YtmlfnidckfeebaaGreatDoor
open Go.RowKit Go.Shelf
attribute [local go_sem] yUpon strOf_toList
set_option maxRecDepth 100000 in
set_option maxHeartbeats 4000000 in
theorem rnbytes_calls (n : Sp.Node) (A B : Option Addr) (cap cap' : Nat) (w : World) (hV : Vers w A n.1) (hK : Kids w B n.2) (hl : n.1.length ≤ 1000) (hd : ∀ v ∈ n.1, v.data.length ≤ 100000 ∧ v.past.length ≤ 100000) (hk : n.2.length ≤ 1000) :
    Calls Tryz.prog 148 #[nodeV A n.1.length cap B n.2.length cap'] w fun e w' => e = .returned (.tuple #[.string (strOf (Sp.nbytes n).1), .int .i64 (Sp.nbytes n).2]) ∧ Ext w w' := by
  obtain ⟨W0, hW0⟩ : ∃ W0, W0 = w.alloc (.cells (nodeA A n.1.length cap B n.2.length cap') 116) := ⟨_, rfl⟩
  have E0 := Lib.hid (show Ext w W0 by rw [hW0]; exact Ext.alloc _ _)
  obtain ⟨g0, hg0⟩ : ∃ g0, g0 = w.heap.size := ⟨_, rfl⟩
  have X0 := Lib.hid (show isBlk W0 g0 116 (nodeA A n.1.length cap B n.2.length cap') by rw [hW0, hg0]; exact box_at _ _ _)
  have HW := Lib.hid hW0.symm
  have SZ := Lib.hid (show w.heap.size + 1 = W0.heap.size by rw [hW0]; simp)
  have V0 := Lib.hid (hV.ext E0.out)
  have K0 := Lib.hid (hK.ext E0.out)
  obtain ⟨W1, hW1⟩ : ∃ W1, W1 = W0.alloc (.cells #[.string (strOf []), .int .i64 0] 186) := ⟨_, rfl⟩
  have HW1 := Lib.hid (show W0.alloc (.cells #[.string ⟨#[]⟩, .int .i64 0] 186) = W1 from hW1.symm)
  have E1 := Lib.hid (show Ext W0 W1 by rw [hW1]; exact Ext.alloc _ _)
  obtain ⟨g, hg⟩ : ∃ g, g = W0.heap.size := ⟨_, rfl⟩
  have Y1 := Lib.hid (show isRW W1 g ([], 0) by rw [hW1, hg]; exact box_at _ _ _)
  have HG := Lib.hid (show W0.heap.size ≤ g by omega)
  have CK := Lib.hid (rncheck_calls n A B cap cap' W1 (V0.out.ext E1.out) (K0.out.ext E1.out))
  clear hW0 hV hK hW1
  go_enter Tryz.func148, Tryz.ntmps148
  go_wp2_with fail
  rw [HW.out, SZ.out, ← hg, ← hg0]
  rw [HW1.out]
  refine CK.out.mono ?_
  rintro e W2 ⟨rfl, hb2⟩
  have E2 := Lib.hid (E1.out.trans hb2)
  have Y2 := Lib.hid (Y1.out.below hb2)
  have LL := Lib.hid (show ∀ c : Int, (Sp.wfail c ([], 0)).1.length = 0 from fun c => by unfold Sp.wfail; rfl)
  have G0 := Lib.hid (show g0 ≠ g by have := SZ.out; omega)
  clear hb2 hg0 hg
  go_wp2_with fail
  refine (rwfail_calls g ([], 0) (Sp.ncheck n) W2 Y2.out).mono ?_
  rintro e W3 ⟨rfl, hw3, ho3⟩
  have Y3 := Lib.hid hw3
  have E3 := Lib.hid (E2.out.from' (ho3.below HG.out E2.out.size))
  have f0 := ((X0.out.below E3.out).cell 0).trans rfl
  clear hw3 ho3
  go_wp2_with fail
  refine (rputleaf_calls W0 g (Sp.wfail (Sp.ncheck n) ([], 0)) n.1 A cap W3 E3.out HG.out Y3.out V0.out hl hd (by rw [LL.out]; decide)).mono ?_
  rintro e W4 ⟨rfl, t4⟩
  have Y4 := Lib.hid t4.wr
  have E4 := Lib.hid (t4.ext HG.out E3.out)
  have L4 := Lib.hid (show (Sp.wleaf n.1 (Sp.wfail (Sp.ncheck n) ([], 0))).1.length ≤ 45381 by have := Sp.wleaf_len n.1 (Sp.wfail (Sp.ncheck n) ([], 0)); rw [LL.out] at this; omega)
  have f1 := ((X0.out.below E4.out).cell 1).trans rfl
  clear t4 f0
  go_wp2_with fail
  refine (rwnum_calls g _ (n.2.length : Int) W4 Y4.out (by have := L4.out; omega)).mono ?_
  rintro e W5 ⟨rfl, hw5, ho5⟩
  have E5 := Lib.hid (E4.out.from' (ho5.below HG.out E4.out.size))
  obtain ⟨x0, hx0⟩ : ∃ x0, x0 = Sp.wnum n.2.length (Sp.wleaf n.1 (Sp.wfail (Sp.ncheck n) ([], 0))) := ⟨_, rfl⟩
  have L5 := Lib.hid (show x0.1.length ≤ 50000 by
    have h1 := Sp.wnum_len (n.2.length : Int) (Sp.wleaf n.1 (Sp.wfail (Sp.ncheck n) ([], 0))); have h2 := L4.out; rw [hx0]; omega)
  rw [← hx0] at hw5
  have Y5 := Lib.hid hw5
  have NN := Lib.hid (show Sp.rnode n = Sp.wkids n.2 x0 by rw [hx0]; rfl)
  have NO := Lib.hid (Sp.rnode_ok n)
  obtain ⟨l, hll⟩ : ∃ l, l = n.2 := ⟨_, rfl⟩
  rw [← hll] at NN K0 hk X0 ⊢
  clear hw5 ho5 hx0 hll f1
  go_wp2_with fail
  go_loopw [5] (fun v5 wr => ∃ k : Nat, k ≤ l.length ∧ v5 = .int .i64 k ∧ isRW wr g (Sp.wkids (l.take k) x0) ∧ Ext W0 wr) (fun v5 _ => l.length - (intOf v5).toNat)
  case atStart => exact ⟨0, Nat.zero_le _, rfl, Y5.out, E5.out⟩
  case round =>
    obtain ⟨k, hkl, rfl, hw, hb⟩ := hrel
    have f1 := ((X0.out.below hb).cell 1).trans rfl
    by_cases hlt : k < l.length
    · obtain ⟨ga, o, rfl, hat⟩ := (K0.out.ext hb).at (Nat.lt_of_le_of_lt (Nat.zero_le _) hlt)
      have hok := K0.out.2 l[k] (List.getElem_mem hlt)
      have hR := (K0.out.at (Nat.lt_of_le_of_lt (Nat.zero_le _) hlt))
      obtain ⟨ga', o', hA, hR0⟩ := hR
      cases hA
      have hR := hR0 k hlt
      have tk := List.take_succ_eq_append_getElem hlt
      have LK := Sp.wkids_len 1000000 32 (l.take k) x0 (fun j hj => by have := K0.out.2 j (List.mem_of_mem_take hj); omega)
      rw [List.length_take, Nat.min_eq_left hkl] at LK
      have LK' := Lib.hid (show (Sp.wkids (l.take k) x0).1.length ≤ 1000000000000 by
        have := L5.out
        have : k * (1000000 + 32 + 20) ≤ 1000 * (1000000 + 32 + 20) := Nat.mul_le_mul_right _ (by omega)
        omega)
      obtain ⟨kd, hkd⟩ : ∃ kd, kd = l[k] := ⟨_, rfl⟩
      rw [← hkd] at hok hR tk
      have HR := Lib.hid hR
      have TK := Lib.hid (show Sp.wkids (l.take (k + 1)) x0 = Sp.wkid kd (Sp.wkids (l.take k) x0) by rw [tk, Sp.wkids_snoc])
      obtain ⟨xk, hxk⟩ : ∃ xk, xk = Sp.wkids (l.take k) x0 := ⟨_, rfl⟩
      rw [← hxk] at hw TK LK'
      have KL := kidL_len kd hok.1
      have HWR := Lib.hid hw
      have HB := Lib.hid hb
      have k0 := hb.cell (kid_name HR.out)
      have D0 := Lib.hid (show W0.rangeAt ga (o + k * 33 + 1) (kd.2.map byteV) from fun j v hv => by
        rw [Nat.add_assoc _ 1 j]
        refine HR.out (1 + j) v ?_
        unfold kidL
        rw [Nat.add_comm 1 j, List.getElem?_cons_succ]; exact hv)
      clear hR hR0 hb hat hkd hw tk LK hxk
      go_wp2_with fail
      refine (rwtext_calls g xk (strOf kd.1) wr HWR.out (by have := LK'.out; omega) (by rw [strOf_size]; omega)).mono ?_
      rintro e w6 ⟨rfl, hw6, ho6⟩
      rw [strOf_data] at hw6
      have W6 := Lib.hid hw6
      have E6 := Lib.hid (HB.out.from' (ho6.below HG.out HB.out.size))
      have L6 := Lib.hid (show (Sp.wtext kd.1 xk).1.length ≤ 10000000000000 by have := Sp.wtext_len kd.1 xk; have := LK'.out; omega)
      have D6 := Lib.hid (show w6.rangeAt ga (o + k * 33 + 1) (kd.2.map byteV) from fun j v hv => E6.out.cell (D0.out j v hv))
      clear hw6 ho6 k0 f1
      have f1 := ((X0.out.below E6.out).cell 1).trans rfl
      go_wp2_with ((with_reducible refine at_load (t := 36) rfl ?_); refine wpList_load_mid rfl _ _ rfl ga (o + k * 33 + 1) rfl (kd.2.map byteV) _ D6.out Tryz.underlying36 rfl (by rw [List.length_map, hok.1]; kernel_rfl) ?_)
      refine (rwdigest_calls g _ kd.2 w6 hok.1 W6.out (by have := L6.out; omega)).mono ?_
      rintro e w7 ⟨rfl, t7⟩
      go_wp2
      go_roundw
      case rel => exact ⟨k + 1, by omega, by go_num, by rw [TK.out]; exact t7.wr, t7.ext HG.out E6.out⟩
      case measure => simp [intOf]; omega
    · obtain rfl : k = l.length := by omega
      rw [List.take_length, ← NN.out] at hw
      have DN := Lib.hid (rwdone_calls g (Sp.rnode n) wr hw)
      rw [NO.out] at DN
      have HB := Lib.hid hb
      clear hw hb
      go_wp2_with fail
      refine DN.out.mono ?_
      rintro e w8 ⟨rfl, hb8⟩
      go_wp2
      go_ret2
      exact ⟨rfl, E0.out.trans (HB.out.trans hb8)⟩
end Go.Proofs.YtmlfnidckfeebaaGreatDoor
namespace Go.Proofs.YtmlfnidckfeebaaGreatDoor
open Go.RowKit Go.Shelf
attribute [local go_sem] yUpon strOf_toList
set_option maxRecDepth 100000 in
set_option maxHeartbeats 4000000 in
theorem rnsum_calls (n : Sp.Node) (A B : Option Addr) (cap cap' : Nat) (w : World) (hV : Vers w A n.1) (hK : Kids w B n.2) (hl : n.1.length ≤ 1000) (hd : ∀ v ∈ n.1, v.data.length ≤ 100000 ∧ v.past.length ≤ 100000) (hk : n.2.length ≤ 1000) (K : KeysAt w 0) :
    Calls Tryz.prog 217 #[nodeV A n.1.length cap B n.2.length cap'] w fun e w' => e = .returned (digV (Sp.nsum n)) ∧ Ext w w' := by
  have hsl := Sp.nsum_len n
  have hds := digC_size (Sp.nsum n)
  obtain ⟨arr, ha⟩ : ∃ arr, arr = digC (Sp.nsum n) := ⟨_, rfl⟩
  have HA := Lib.hid ha
  rw [← ha] at hds
  have w1 : arr.all (·.oneCell') = true := by rw [ha]; exact all_oneCell_toArray (bytes_one _)
  clear ha
  rw [show digV (Sp.nsum n) = .agg (digC (Sp.nsum n)) from rfl, ← HA.out]
  have tok2 : True := trivial
  obtain ⟨W0, hW0⟩ : ∃ W0, W0 = w.alloc (.cells (nodeA A n.1.length cap B n.2.length cap') 116) := ⟨_, rfl⟩
  have E0 := Lib.hid (show Ext w W0 by rw [hW0]; exact Ext.alloc _ _)
  have X0 := Lib.hid (show isBlk W0 w.heap.size 116 (nodeA A n.1.length cap B n.2.length cap') by rw [hW0]; exact box_at _ _ _)
  have HW := Lib.hid (show w.alloc (.cells #[.slice A n.1.length cap, .slice B n.2.length cap'] 116) = W0 from hW0.symm)
  have SZ := Lib.hid (show W0.heap.size = w.heap.size + 1 by rw [hW0]; simp)
  have CB := Lib.hid fun W (h : Ext W0 W) => rnbytes_calls n A B cap cap' W (hV.ext (E0.out.trans h)) (hK.ext (E0.out.trans h)) hl hd hk
  clear hW0
  go_enter Tryz.func217, Tryz.ntmps217
  go_wp2_with (have _t2 := tok2; ((with_reducible refine at_alloc (t := 36) rfl ?_); refine box_new rfl (cs := zero32) (t := 36) (by first | (go_simp; done) | (go_simp; rfl)) ?_; intro g2 w2 hg2 hx2 hb2; rw [HW.out] at hb2 hg2; have f0 := ((X0.out.below hb2).cell 0).trans rfl; have f1 := ((X0.out.below hb2).cell 1).trans rfl; have H2 := Lib.hid hx2; have B2 := Lib.hid hb2; have GG2 := Lib.hid hg2; clear tok2 _t2 hx2 hb2 hg2))
  refine (CB.out _ B2.out).mono ?_
  rintro e w3 ⟨rfl, hb3⟩
  have H3 := Lib.hid (H2.out.below hb3)
  have E3 := Lib.hid (E0.out.trans (Ext.trans B2.out hb3))
  clear hb3 f0 f1
  by_cases hc : (Sp.nbytes n).2 = 0
  · rw [hc]
    have F := Lib.hid (show Sp.sha (Sp.nbytes n).1 = Sp.nsum n from (if_neg (by simpa using hc)).symm)
    have hlen : (Sp.nbytes n).1.length ≤ 4000000000 := Sp.nbytes_len n hK.2 hc
    have SO := Lib.hid (rsha_calls (Sp.nbytes n).1 w3 hlen (K.ext E3.out))
    rw [F.out, show digV (Sp.nsum n) = .agg (digC (Sp.nsum n)) from rfl, ← HA.out] at SO
    go_wp2_with fail
    refine SO.out.mono ?_
    rintro e w4 ⟨rfl, hb4⟩
    have H4 := Lib.hid (H3.out.below hb4)
    have E4 := Lib.hid (E3.out.trans hb4)
    clear hb4
    go_wp2_with ((with_reducible refine at_store (t := 36) rfl ?_); refine wpList_store_row rfl _ _ _ rfl g2 arr rfl rfl 36 _ H4.out (by rw [hds, hsl]; kernel_rfl) (by rw [hds, hsl]; rfl) w1 ?_)
    refine bodyPost_ret (results_cell_row rfl _ _ g2 36 arr (0, 0) _ rfl (setRow_heap _ _ _ _ _ _ H4.out) Tryz.underlying36 rfl (by rw [hds, hsl]; kernel_rfl)) rfl ?_
    exact ⟨rfl, below_setRow E4.out (by have := GG2.out; have := SZ.out; omega) _⟩
  · have F := Lib.hid (show arr = zero32 by rw [HA.out, show Sp.nsum n = List.replicate 32 0 from if_pos (by simpa using hc)])
    go_wp2_with ((with_reducible refine at_store (t := 36) rfl ?_); refine wpList_store_row rfl _ _ _ rfl g2 zero32 rfl rfl 36 _ H3.out (by kernel_rfl) (by kernel_rfl) (by kernel_rfl) ?_)
    refine bodyPost_ret (results_cell_row rfl _ _ g2 36 zero32 (0, 0) _ rfl (setRow_heap _ _ _ _ _ _ H3.out) Tryz.underlying36 rfl (by kernel_rfl)) rfl ?_
    exact ⟨by rw [F.out], below_setRow E3.out (by have := GG2.out; have := SZ.out; omega) _⟩
end Go.Proofs.YtmlfnidckfeebaaGreatDoor
namespace Go.Proofs.YtmlfnidckfeebaaGreatDoor
open Go.RowKit
namespace Sp
theorem cmpP_end (l m : List Bs) (h : l = [] ∨ m = []) : cmpP l m = max (-1) (min 1 ((l.length : Int) - m.length)) := by
  cases l with
  | nil => cases m with
    | nil => rfl
    | cons b m => simp [cmpP]; omega
  | cons a l => cases m with
    | nil => simp [cmpP]; omega
    | cons b m => simp at h
theorem cmpP_step (L M : List ByteArray) (k : Nat) (hl : k < L.length) (hm : k < M.length) : cmpP ((L.map (·.data.toList)).drop k) ((M.map (·.data.toList)).drop k) =
    if L[k].data.toList = M[k].data.toList then cmpP ((L.map (·.data.toList)).drop (k + 1)) ((M.map (·.data.toList)).drop (k + 1)) else Lib.compareBytes L[k].data.toList M[k].data.toList := by
  rw [List.drop_eq_getElem_cons (by simpa using hl), List.drop_eq_getElem_cons (i := k) (l := M.map (·.data.toList)) (by simpa using hm), cmpP]
  simp
end Sp
end Go.Proofs.YtmlfnidckfeebaaGreatDoor
namespace Go.Proofs.YtmlfnidckfeebaaGreatDoor
open Go.RowKit
namespace Sp
theorem kid_ne : ∀ (k : List (Bs × T)) (p : Bs) (t : T), OkL k → kid k p = some t → entries t ≠ []
  | [], _, _, _, h => by cases h
  | (m, s) :: r, p, t, hk, h => by
    rw [kid] at h
    split at h
    · cases h; exact hk.2.1
    · exact kid_ne r p t hk.2.2.2 h
theorem findT_ne : ∀ (d : List Bs) (t s : T), Ok t → d ≠ [] → findT t d = some s → entries s ≠ []
  | [n], .mk leaf k, s, h, _, hs => by
    rw [findT] at hs
    change (kid k n).bind _ = some s at hs
    cases hk : kid k n with
    | none => rw [hk] at hs; cases hs
    | some u => rw [hk] at hs; cases hs; exact kid_ne k n _ h.2.2 hk
  | n :: m :: d, .mk leaf k, s, h, _, hs => by
    rw [findT] at hs
    change (kid k n).bind _ = some s at hs
    cases hk : kid k n with
    | none => rw [hk] at hs; cases hs
    | some u => rw [hk] at hs; exact findT_ne (m :: d) u s (kid_ok k n u h.2.2 hk) (by simp) hs
end Sp
end Go.Proofs.YtmlfnidckfeebaaGreatDoor
namespace Go.Proofs.YtmlfnidckfeebaaGreatDoor
open Go.RowKit Go.Shelf
attribute [local go_sem] yUpon strOf_toList
set_option maxRecDepth 100000 in
set_option maxHeartbeats 4000000 in
theorem rget_calls (l : List Sp.DE) (A : Option Addr) (cap : Nat) (p : Sp.Bs) (w : World) (h : EntsAt w A l) (hl : l.length ≤ 1000000) :
    Calls Tryz.prog 78 #[.slice A l.length cap, .string (strOf p)] w fun e w' => ∃ Av cv, e = .returned (.slice Av (Sp.rget l p).length cv) ∧ Vers w' Av (Sp.rget l p) ∧ w = w' := by
  have HH := Lib.hid h
  clear h
  go_enter Tryz.func78, Tryz.ntmps78
  go_wp2
  go_loopw [5] (fun v5 wr => ∃ k : Nat, k ≤ l.length ∧ v5 = .int .i64 k ∧ Sp.rget (l.drop k) p = Sp.rget l p ∧ w = wr) (fun v5 _ => l.length - (intOf v5).toNat)
  case atStart => exact ⟨0, Nat.zero_le _, rfl, rfl, rfl⟩
  case round =>
    obtain ⟨k, hk2, rfl, hr, rfl⟩ := hrel
    by_cases hlt : k < l.length
    · obtain ⟨eb, eo, rfl, he⟩ := HH.out.at (by omega)
      obtain ⟨Av, cv, c0, c1, hv⟩ := he k hlt
      obtain ⟨x, hx⟩ : ∃ x, x = l[k] := ⟨_, rfl⟩
      have RG := Lib.hid (show (if x.1 = p then x.2 else Sp.rget (l.drop (k + 1)) p) = Sp.rget l p by
        rw [← hr, List.drop_eq_getElem_cons hlt, hx]; rfl)
      rw [← hx] at c0 c1 hv
      have HV := Lib.hid hv
      have b1 : (k : Int) < (l.length : Int) := by omega
      clear hr he hx hv
      by_cases hp : x.1 = p
      · have e1 : (x.1 == p) = true := by rw [hp]; exact beq_self_eq_true _
        have RG2 := Lib.hid (show x.2 = Sp.rget l p by rw [← RG.out, if_pos hp])
        have HPP := Lib.hid hp
        clear hp
        go_wp2
        go_ret
        rw [← RG2.out]
        exact ⟨Av, cv, rfl, HV.out, rfl⟩
      · have e1 : (x.1 == p) = false := by rw [beq_eq_false_iff_ne]; exact hp
        have RG2 := Lib.hid (show Sp.rget (l.drop (k + 1)) p = Sp.rget l p by rw [← RG.out, if_neg hp])
        go_wp2
        refine ⟨⟨k + 1, by omega, by go_num, RG2.out, by first | rfl | trivial⟩, by simp [intOf]; omega⟩
    · obtain rfl : k = l.length := by omega
      rw [List.drop_length] at hr
      have RG := Lib.hid (show ([] : List Sp.Ver) = Sp.rget l p from hr)
      clear hr
      go_wp2
      go_ret
      rw [← RG.out]
      exact ⟨none, 0, rfl, ⟨[], rfl, Cells.nil _ _, fun x h => by cases h⟩, rfl⟩
namespace Sp
end Sp
set_option maxRecDepth 100000 in
theorem down_calls (d n : Sp.Bs) (w : World) (hdl : d.length ≤ 1000) (hnl : n.length ≤ 1000) : Calls Tryz.prog 143 #[.string (strOf d), .string (strOf n)] w fun e w' => e = .returned (.string (strOf (Sp.down d n))) ∧ w = w' := by
  go_enter Tryz.func143, Tryz.ntmps143
  by_cases hd : d = []
  · subst hd
    have c1 : (([] : List UInt8).isEmpty) = true := rfl
    go_wp2
    go_ret
    exact ⟨by rw [Sp.down, if_pos rfl]; rfl, rfl⟩
  · have c5 : d.isEmpty = false := by cases d with | nil => exact absurd rfl hd | cons _ _ => rfl
    have c6 : (d == []) = false := by rw [beq_eq_false_iff_ne]; exact hd
    have z1 : ¬ 9223372036854775807 < (strOf d).size + 1 := by rw [strOf_size]; omega
    have z2 : ¬ 9223372036854775807 < (strOf d).size + 1 + (strOf n).size := by rw [strOf_size, strOf_size]; omega
    go_wp2
    go_ret
    have e : strOf d ++ ⟨#[47]⟩ ++ strOf n = strOf (Sp.down d n) := by
      rw [Sp.down, if_neg hd]
      apply ByteArray.ext
      simp [strOf]
    exact ⟨congrArg (fun s => Ending.returned (.string s)) e, rfl⟩
end Go.Proofs.YtmlfnidckfeebaaGreatDoor
namespace Go.Proofs.YtmlfnidckfeebaaGreatDoor
open Go.RowKit Go.Shelf
attribute [local go_sem] yUpon strOf_toList
namespace Sp
def bad (p d : Bs) : Bool := decide (parts p = []) || (decide (d ≠ []) && decide (parts d = [])) || decide ((parts p).length ≤ (parts d).length)
theorem under_bad (p d : Bs) : under p d = (!bad p d && decide ((parts p).take (parts d).length = parts d)) := by
  have h : decide ((parts d).length < (parts p).length) = !decide ((parts p).length ≤ (parts d).length) := by
    rw [← decide_not]
    congr 1
    simp [Nat.not_le]
  unfold under bad
  simp only [ne_eq, decide_not, h]
  generalize decide (parts p = []) = a1
  generalize decide (d = []) = a2
  generalize decide (parts d = []) = a3
  generalize decide ((parts p).length ≤ (parts d).length) = a4
  cases a1 <;> cases a2 <;> cases a3 <;> cases a4 <;> rfl
end Sp
set_option maxRecDepth 100000 in
set_option maxHeartbeats 4000000 in
theorem under_calls (p d : Sp.Bs) (w : World) (hpl : p.length ≤ 1000000) (hdl : d.length ≤ 1000000) :
    Calls Tryz.prog 25 #[.string (strOf p), .string (strOf d)] w fun e w' => e = .returned (.bool (Sp.under p d)) ∧ Ext w w' := by
  have PP := Lib.hid (show ∀ W, _ from fun W => rparts_calls (strOf p) W (by rw [strOf_size]; omega))
  have PD := Lib.hid (show ∀ W, _ from fun W => rparts_calls (strOf d) W (by rw [strOf_size]; omega))
  have UB := Lib.hid (Sp.under_bad p d)
  have hP4 := Sp.parts_len p
  have hD4 := Sp.parts_len d
  rw [strOf_data] at PP PD
  obtain ⟨P, hP⟩ : ∃ P, P = Sp.parts p := ⟨_, rfl⟩
  obtain ⟨D, hD⟩ : ∃ D, D = Sp.parts d := ⟨_, rfl⟩
  rw [← hP, ← hD] at UB
  rw [← hP] at PP hP4
  rw [← hD] at PD hD4
  obtain ⟨bb, hbb⟩ : ∃ bb, bb = Sp.bad p d := ⟨_, rfl⟩
  rw [← hbb] at UB
  have HBB := Lib.hid (show bb = (decide (P = []) || (decide (d ≠ []) && decide (D = [])) || decide (P.length ≤ D.length)) by rw [hbb, Sp.bad, hP, hD])
  clear hP hD hbb
  go_enter Tryz.func25, Tryz.ntmps25
  go_wp2_with fail
  refine (PP.out w).mono ?_
  intro e w1 ht
  obtain ⟨A1, c1, rfl, _, hN1, hb1⟩ := ht.nams
  have N1 := Lib.hid hN1
  have B1 := Lib.hid hb1
  clear ht hN1 hb1
  go_wp2_with fail
  refine (PD.out w1).mono ?_
  intro e w2 ht
  obtain ⟨A2, c2, rfl, _, hN2, hb2⟩ := ht.nams
  have N2 := Lib.hid hN2
  have N12 := Lib.hid (N1.out.ext hb2)
  have B2 := Lib.hid (B1.out.trans hb2)
  clear ht hN2 hb2 PP PD
  go_upto_region 2 with fail
  go_cut [30] (fun v30 wx => v30 = .bool bb ∧ wx = w2)
  case first =>
    by_cases h1 : P = []
    · have r := Lib.hid (show bb = true by rw [HBB.out]; simp [h1])
      have e1 : P.length = 0 := by rw [h1]; rfl
      have z := Lib.hid h1
      clear h1
      go_wp2
      go_meet
      case rel => exact ⟨by rw [r.out], rfl⟩
    · have e1 : ((P.length : Int) == 0) = false := by rw [beq_eq_false_iff_ne]; intro h; exact h1 (List.eq_nil_of_length_eq_zero (by omega))
      have e2 : ¬ P.length = 0 := fun h => h1 (List.eq_nil_of_length_eq_zero h)
      by_cases h4 : P.length ≤ D.length
      · have f1 : (P.length : Int) ≤ (D.length : Int) := by omega
        have r := Lib.hid (show bb = true by rw [HBB.out]; simp [h4])
        by_cases h2 : d = []
        · subst h2
          have c1 : (([] : List UInt8).isEmpty) = true := rfl
          clear h1
          go_wp2
          go_meet
          case rel => exact ⟨by rw [r.out], rfl⟩
        · have c5 : d.isEmpty = false := by cases d with | nil => exact absurd rfl h2 | cons _ _ => rfl
          have c6 : (d == []) = false := by rw [beq_eq_false_iff_ne]; exact h2
          have e3 : ((D.length : Int) == 0) = false := by rw [beq_eq_false_iff_ne]; omega
          have e4 : ¬ D.length = 0 := by omega
          clear h1
          go_wp2
          go_meet
          case rel => exact ⟨by rw [r.out], rfl⟩
      · have f1 : ¬ (P.length : Int) ≤ (D.length : Int) := by omega
        by_cases h2 : d = []
        · subst h2
          have c1 : (([] : List UInt8).isEmpty) = true := rfl
          have r := Lib.hid (show bb = false by rw [HBB.out]; simp [h4, h1])
          clear h1
          go_wp2
          go_meet
          case rel => exact ⟨by rw [r.out], rfl⟩
        · have c5 : d.isEmpty = false := by cases d with | nil => exact absurd rfl h2 | cons _ _ => rfl
          have c6 : (d == []) = false := by rw [beq_eq_false_iff_ne]; exact h2
          by_cases h3 : D = []
          · have r := Lib.hid (show bb = true by rw [HBB.out]; simp [h2, h3])
            have e3 : ((D.length : Int) == 0) = true := by rw [h3]; rfl
            clear h1 h3
            go_wp2
            go_meet
            case rel => exact ⟨by rw [r.out], rfl⟩
          · have r := Lib.hid (show bb = false by rw [HBB.out]; simp [h4, h1, h3])
            have e3 : ((D.length : Int) == 0) = false := by rw [beq_eq_false_iff_ne]; intro h; exact h3 (List.eq_nil_of_length_eq_zero (by omega))
            have e4 : ¬ D.length = 0 := fun h => h3 (List.eq_nil_of_length_eq_zero h)
            clear h1 h3
            go_wp2
            go_meet
            case rel => exact ⟨by rw [r.out], rfl⟩
  case rest =>
    obtain ⟨rfl, hwc⟩ := hcut
    rw [hwc]
    clear hwc
    cases bb with
    | true =>
      go_wp2
      go_ret
      exact ⟨by rw [UB.out]; rfl, B2.out⟩
    | false =>
      have hlt0 : D.length < P.length := by
        have := HBB.out
        have h := this.symm
        simp only [Bool.or_eq_false_iff, decide_eq_false_iff_not] at h
        omega
      go_wp2
      go_loopw [7] (fun v7 wr => ∃ k : Nat, k ≤ D.length ∧ v7 = .int .i64 k ∧ P.take k = D.take k ∧ Ext w2 wr) (fun v7 _ => D.length - (intOf v7).toNat)
      case atStart => exact ⟨0, Nat.zero_le _, rfl, rfl, Ext.refl _⟩
      case round =>
        obtain ⟨k, hk2, rfl, ht, hb⟩ := hrel
        have HT := Lib.hid ht
        have HB := Lib.hid hb
        clear ht hb
        by_cases hlt : k < D.length
        · obtain ⟨a1, o1, rfl, hn1⟩ := N12.out.at (by omega)
          obtain ⟨a2, o2, rfl, hn2⟩ := N2.out.at (by omega)
          have hkP : k < P.length := by omega
          have x1 := HB.out.cell (hn1 k hkP)
          have x2 := HB.out.cell (hn2 k hlt)
          have TP := Lib.hid (List.take_succ_eq_append_getElem hkP)
          have TD := Lib.hid (List.take_succ_eq_append_getElem hlt)
          obtain ⟨y1, hy1⟩ : ∃ y, y = P[k] := ⟨_, rfl⟩
          obtain ⟨y2, hy2⟩ : ∃ y, y = D[k] := ⟨_, rfl⟩
          rw [← hy1] at x1 TP
          rw [← hy2] at x2 TD
          have X1 := Lib.hid (show wr.drew.cell? ⟨a1, o1 + k, none⟩ = some (.string (strOf y1)) from x1)
          have X2 := Lib.hid (show wr.drew.cell? ⟨a2, o2 + k, none⟩ = some (.string (strOf y2)) from x2)
          have b1 : (k : Int) < (D.length : Int) := by omega
          have b2 : (k : Int) < (P.length : Int) := by omega
          clear hn1 hn2 hy1 hy2 x1 x2
          by_cases hy : y1 = y2
          · have e1 : (y1 == y2) = true := by rw [hy]; exact beq_self_eq_true _
            have HY := Lib.hid hy
            clear hy
            go_wp2_with fail
            refine wp_region_det (fun W => W = wr.drew) (by kernel_rfl) (by kernel_rfl) rfl ?_
            repeat (first
              | (refine det_step (fun K hK => ?_)
                 apply Exists.intro
                 refine ⟨Or.inl ⟨rfl, fun W hS => ?_⟩, ?_⟩
                 · have hz : W = wr.drew := hS; subst hz; have x1 := X1.out; have x2 := X2.out
                   go_simp
                   first
                   | exact rfl
                   | exact ⟨rfl, hS⟩
                   | (fail)
                 go_simp
                 refine hK _ ?_
                 clear hK K)
              | (refine det_step (fun K hK => ?_); refine det_no' rfl ?_; go_simp; refine hK _ ?_; clear hK K))
            refine det_nil ?_
            rintro W rfl
            go_wp2
            refine ⟨⟨k + 1, by omega, by go_num, by rw [TP.out, TD.out, HT.out, HY.out], HB.out.drew⟩, by simp [intOf]; omega⟩
          · have e1 : (y1 == y2) = false := by rw [beq_eq_false_iff_ne]; exact hy
            have HY := Lib.hid hy
            clear hy
            go_wp2_with fail
            refine wp_region_det (fun W => W = wr.drew) (by kernel_rfl) (by kernel_rfl) rfl ?_
            repeat (first
              | (refine det_step (fun K hK => ?_)
                 apply Exists.intro
                 refine ⟨Or.inl ⟨rfl, fun W hS => ?_⟩, ?_⟩
                 · have hz : W = wr.drew := hS; subst hz; have x1 := X1.out; have x2 := X2.out
                   go_simp
                   first
                   | exact rfl
                   | exact ⟨rfl, hS⟩
                   | (fail)
                 go_simp
                 refine hK _ ?_
                 clear hK K)
              | (refine det_step (fun K hK => ?_); refine det_no' rfl ?_; go_simp; refine hK _ ?_; clear hK K))
            refine det_nil ?_
            rintro W rfl
            go_wp2
            go_ret
            refine ⟨?_, B2.out.trans HB.out.drew⟩
            rw [UB.out]
            have hne : ¬ P.take D.length = D := by
              intro h
              have h2 := congrArg (List.take (k + 1)) h
              rw [List.take_take, Nat.min_eq_left (by omega), TP.out, TD.out] at h2
              have h3 := List.append_inj_right' h2 rfl
              exact HY.out (by injection h3)
            rw [decide_eq_false hne]; rfl
        · obtain rfl : k = D.length := by omega
          have HT2 := Lib.hid (show P.take D.length = D by rw [HT.out, List.take_length])
          go_wp2
          go_ret
          refine ⟨?_, B2.out.trans HB.out⟩
          rw [UB.out, decide_eq_true HT2.out]; rfl
end Go.Proofs.YtmlfnidckfeebaaGreatDoor
namespace Go.Proofs.YtmlfnidckfeebaaGreatDoor
open Go.RowKit Go.Shelf
attribute [local go_sem] yUpon strOf_toList
namespace Sp
def nxt (out : List Bs) (s : Bs) : List Bs := if out.getLast? = some s then out else out ++ [s]
theorem under_lt {p d : Bs} (h : under p d = true) : (parts d).length < (parts p).length := by
  unfold under at h
  simp only [Bool.and_eq_true, decide_eq_true_eq] at h
  exact h.1.2
end Sp
set_option maxRecDepth 100000 in
set_option maxHeartbeats 4000000 in
theorem rnames_own (l : List Sp.DE) (A : Option Addr) (cap : Nat) (d : Sp.Bs) (w : World) (h : EntsAt w A l) (hl : l.length ≤ 1000000) (hpl : ∀ e ∈ l, e.1.length ≤ 1000000) (hdl : d.length ≤ 1000000) :
    Calls Tryz.prog 150 #[.slice A l.length cap, .string (strOf d)] w fun e w' => ∃ v, e = .returned v ∧ w'.ownsRow w.heap.size 9 1 v (Sp.rnames d [] l).length (strsC (Sp.rnames d [] l)) ∧ Ext w w' := by
  have HH := Lib.hid h
  have HPL := Lib.hid hpl
  clear h hpl
  go_enter Tryz.func150, Tryz.ntmps150
  go_wp2
  go_loopw [5, 6] (fun v5 v6 wr => ∃ (k : Nat) (out : List Sp.Bs) (v : Value), k ≤ l.length ∧ v = v5 ∧ v6 = .int .i64 k ∧ out.length ≤ k ∧ wr.ownsRow w.heap.size 9 1 v out.length (strsC out) ∧ Sp.rnames d out (l.drop k) = Sp.rnames d [] l ∧ Ext w wr) (fun _ v6 _ => l.length - (intOf v6).toNat)
  case atStart => exact ⟨0, [], _, Nat.zero_le _, rfl, rfl, Nat.le_refl _, World.ownsRow_nil _ _ _ _, rfl, Ext.refl _⟩
  case round =>
    obtain ⟨k, out, v, hk2, rfl, rfl, hol, ho, hr, hb⟩ := hrel
    have HO := Lib.hid ho
    have HB := Lib.hid hb
    clear ho hb
    by_cases hlt : k < l.length
    · obtain ⟨eb, eo, rfl, he⟩ := HH.out.at (by omega)
      obtain ⟨Av, cv, c0, _, _⟩ := he k hlt
      obtain ⟨x, hx⟩ : ∃ x, x = l[k] := ⟨_, rfl⟩
      have RS := Lib.hid (show (if Sp.under x.1 d = true then Sp.rnames d (Sp.nxt out ((Sp.parts x.1).getD (Sp.parts d).length [])) (l.drop (k + 1)) else Sp.rnames d out (l.drop (k + 1))) = Sp.rnames d [] l by
        rw [← hr, List.drop_eq_getElem_cons hlt, hx]; rfl)
      have XL := Lib.hid (show x.1.length ≤ 1000000 by rw [hx]; exact HPL.out _ (List.getElem_mem hlt))
      rw [← hx] at c0
      have C0 := Lib.hid c0
      have x0 := HB.out.cell c0
      have b1 : (k : Int) < (l.length : Int) := by omega
      clear hr he hx c0
      go_wp2_with fail
      refine (under_calls x.1 d wr XL.out hdl).mono ?_
      rintro e w1 ⟨rfl, hb1⟩
      have B1 := Lib.hid (show Ext wr w1 from hb1)
      clear hb1 x0
      by_cases hu : Sp.under x.1 d = true
      · have RS2 := Lib.hid (show Sp.rnames d (Sp.nxt out ((Sp.parts x.1).getD (Sp.parts d).length [])) (l.drop (k + 1)) = Sp.rnames d [] l by rw [← RS.out, if_pos hu])
        have LT := Lib.hid (Sp.under_lt hu)
        have x1 := (HB.out.trans B1.out).cell C0.out
        rw [hu]
        clear hu
        go_wp2_with fail
        refine (rparts_calls (strOf x.1) w1 (by rw [strOf_size]; have := XL.out; omega)).mono ?_
        intro e w2 ht
        obtain ⟨A2, c2, rfl, _, hN2, hb2⟩ := ht.nams
        rw [strOf_data] at hN2 ⊢
        have N2 := Lib.hid hN2
        have B2 := Lib.hid (show Ext wr w2 from B1.out.trans hb2)
        clear ht hN2 hb2 x1
        go_wp2_with fail
        refine (rparts_calls (strOf d) w2 (by rw [strOf_size]; omega)).mono ?_
        intro e w3 ht
        obtain ⟨A3, c3, rfl, _, _, hb3⟩ := ht.nams
        rw [strOf_data] at ⊢
        have B3 := Lib.hid (show Ext wr w3 from B2.out.trans hb3)
        have N3 := Lib.hid (N2.out.ext hb3)
        have HO3 := Lib.hid (own_ext HO.out B3.out)
        clear ht hb3
        obtain ⟨j, hj⟩ : ∃ j, j = (Sp.parts d).length := ⟨_, rfl⟩
        obtain ⟨P, hP⟩ : ∃ P, P = Sp.parts x.1 := ⟨_, rfl⟩
        rw [← hj, ← hP] at LT RS2
        rw [← hP] at N3
        rw [← hj, ← hP]
        have hjP := LT.out
        obtain ⟨a2, o2, rfl, hn2⟩ := N3.out.at (by omega)
        obtain ⟨s, hs⟩ : ∃ s, s = P[j] := ⟨_, rfl⟩
        have s1 := hn2 j hjP
        rw [← hs] at s1
        have RS3 := Lib.hid (show Sp.rnames d (Sp.nxt out s) (l.drop (k + 1)) = Sp.rnames d [] l by
          rw [← RS2.out, List.getD_eq_getElem?_getD, List.getElem?_eq_getElem hjP, ← hs]; rfl)
        have d1 : (j : Int) < (P.length : Int) := by omega
        have E3 := Lib.hid (HB.out.trans B3.out)
        clear hj hP hn2 hs
        by_cases h0 : out = []
        · subst h0
          have NX := Lib.hid (show Sp.nxt [] s = [s] from rfl)
          rcases own_form HO3.out with ⟨rfl, _, _⟩ | ⟨go, co, rfl, _, _⟩
          · go_wp2_with (at_builtin; refine app_new appStr rfl _ _ rfl w.heap.size _ 0 _ rfl HO3.out #[.string (strOf s)] 9 1 rfl rfl (by intro u hu; simp at hu; subst hu; rfl) (by decide) (by omega) E3.out.size ?_; intro g4 cap4 w4 hown4 hgr4 hb4 hbg4; have O4 := Lib.hid hown4; have B4 := Lib.hid (Below.trans E3.out hb4); clear hown4 hgr4 hb4 hbg4)
            refine ⟨⟨k + 1, [s], _, by omega, rfl, by go_num, by simp, O4.out, by rw [← RS3.out, NX.out], B4.out⟩, by simp [intOf]; omega⟩
          · go_wp2_with (at_builtin; refine app_new appStr rfl _ _ rfl w.heap.size _ 0 _ rfl HO3.out #[.string (strOf s)] 9 1 rfl rfl (by intro u hu; simp at hu; subst hu; rfl) (by decide) (by omega) E3.out.size ?_; intro g4 cap4 w4 hown4 hgr4 hb4 hbg4; have O4 := Lib.hid hown4; have B4 := Lib.hid (Below.trans E3.out hb4); clear hown4 hgr4 hb4 hbg4)
            refine ⟨⟨k + 1, [s], _, by omega, rfl, by go_num, by simp, O4.out, by rw [← RS3.out, NX.out], B4.out⟩, by simp [intOf]; omega⟩
        · have hn0 : out.length ≠ 0 := fun h => h0 (List.eq_nil_of_length_eq_zero h)
          obtain ⟨m, hm⟩ : ∃ m, m = out.length - 1 := ⟨_, rfl⟩
          have hml : m < out.length := by omega
          have w1 : IntKind.i64.wrap ((out.length : Int) - 1) = (m : Int) := by rw [IntKind.wrap_i64]; omega
          have e0 : ((out.length : Int) == 0) = false := by rw [beq_eq_false_iff_ne]; omega
          have d2 : (m : Int) < (out.length : Int) := by omega
          obtain ⟨y, hy⟩ : ∃ y, y = out[m] := ⟨_, rfl⟩
          have GL := Lib.hid (show out.getLast? = some y by rw [List.getLast?_eq_getElem?, ← hm, List.getElem?_eq_getElem hml, hy])
          rcases own_form HO3.out with ⟨_, h1, _⟩ | ⟨go, co, rfl, _, _⟩
          · exact absurd h1 hn0
          have y1 := (own_isBlk HO3.out m (.string (strOf y)) (by rw [strsC, List.getElem?_map, List.getElem?_eq_getElem hml, ← hy]; rfl)).1
          have HN0 := Lib.hid hn0
          clear h0 hy hm hn0
          by_cases hys : y = s
          · have e1 : (y == s) = true := by rw [hys]; exact beq_self_eq_true _
            have NX := Lib.hid (show Sp.nxt out s = out by rw [Sp.nxt, if_pos (by rw [GL.out, hys])])
            clear hys
            go_wp2
            refine ⟨⟨k + 1, out, _, by omega, rfl, by go_num, by omega, HO3.out, by rw [← RS3.out, NX.out], E3.out⟩, by simp [intOf]; omega⟩
          · have e1 : (y == s) = false := by rw [beq_eq_false_iff_ne]; exact hys
            have NX := Lib.hid (show Sp.nxt out s = out ++ [s] by rw [Sp.nxt, if_neg (by rw [GL.out]; intro h; exact hys (Option.some.inj h))])
            clear hys
            go_wp2_with (at_builtin; refine app_new appStr rfl _ _ rfl w.heap.size _ out.length _ rfl HO3.out #[.string (strOf s)] 9 1 rfl rfl (by intro u hu; simp at hu; subst hu; rfl) (by decide) (by omega) E3.out.size ?_; intro g4 cap4 w4 hown4 hgr4 hb4 hbg4; have O4 := Lib.hid hown4; have B4 := Lib.hid (Below.trans E3.out hb4); clear hown4 hgr4 hb4 hbg4)
            refine ⟨⟨k + 1, out ++ [s], _, by omega, rfl, by go_num, by simp; omega, ?_, by rw [← RS3.out, NX.out], B4.out⟩, by simp [intOf]; omega⟩
            have := O4.out
            rw [List.length_append, strsC, List.map_append]
            exact this
      · have hu2 : Sp.under x.1 d = false := by simpa using hu
        have RS2 := Lib.hid (show Sp.rnames d out (l.drop (k + 1)) = Sp.rnames d [] l by rw [← RS.out, if_neg hu])
        rw [hu2]
        clear hu hu2
        go_wp2
        refine ⟨⟨k + 1, out, _, by omega, rfl, by go_num, by omega, own_ext HO.out B1.out, RS2.out, HB.out.trans B1.out⟩, by simp [intOf]; omega⟩
    · obtain rfl : k = l.length := by omega
      rw [List.drop_length] at hr
      have RG := Lib.hid (show out = Sp.rnames d [] l from hr)
      clear hr
      go_wp2
      go_ret
      rw [← RG.out]
      exact ⟨_, rfl, HO.out, HB.out⟩
theorem rnames_calls (l : List Sp.DE) (A : Option Addr) (cap : Nat) (d : Sp.Bs) (w : World) (h : EntsAt w A l) (hl : l.length ≤ 1000000) (hpl : ∀ e ∈ l, e.1.length ≤ 1000000) (hdl : d.length ≤ 1000000) :
    Calls Tryz.prog 150 #[.slice A l.length cap, .string (strOf d)] w fun e w' => ∃ B c, e = .returned (.slice B (Sp.rnames d [] l).length c) ∧ Nams w' B (Sp.rnames d [] l) ∧ Ext w w' :=
  (rnames_own l A cap d w h hl hpl hdl).mono (by
    rintro e w' ⟨v, rfl, hO, hb⟩
    obtain ⟨B, c, rfl, hc⟩ := own_read hO
    exact ⟨B, c, rfl, hc, hb⟩)
end Go.Proofs.YtmlfnidckfeebaaGreatDoor
