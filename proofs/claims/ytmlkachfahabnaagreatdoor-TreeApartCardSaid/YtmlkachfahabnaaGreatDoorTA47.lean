/- Walks: the bytes of all nodes of a tree, by the document. What '==' says of a kid and itself. Walks: whether leaves, and entries, are too much to be asked. The examples of chapter 15: plain. -/
import Derived.Test.YtmlkachfahabnaaGreatDoorTA39
import Derived.Test.YtmlkachfahabnaaGreatDoorTA46
import Derived.Test.YtmlkachfahabnaaGreatDoorTA07
import Derived.Stop.BytesEq
namespace Go.Proofs.YtmlkachfahabnaaGreatDoor
open Go.RowKit Go.Shelf
attribute [local go_sem] yUpon strOf_toList
namespace Sp
theorem textsT_eq (s : T) : textsT s = (nbytes (nodeT s)).1 :: textsL s.kids := by
  cases s; rfl
theorem textsL_take : ∀ (k : List (Bs × T)) (i : Nat) (h : i < k.length), textsL (k.take (i + 1)) = textsL (k.take i) ++ textsT k[i].2
  | (n, t) :: r, 0, _ => by
    show textsT t ++ textsL [] = textsL [] ++ textsT t
    rw [textsL, List.append_nil, List.nil_append]
  | (n, t) :: r, i + 1, h => by
    show textsT t ++ textsL (r.take (i + 1)) = (textsT t ++ textsL (r.take i)) ++ textsT (r[i]'(by simpa using h)).2
    rw [textsL_take r i (by simpa using h), List.append_assoc]
theorem textsL_part : ∀ (k : List (Bs × T)) (i : Nat), (textsL (k.take i)).length ≤ (textsL k).length
  | [], i => by rw [List.take_nil]; exact Nat.le_refl _
  | (n, t) :: r, 0 => Nat.zero_le _
  | (n, t) :: r, i + 1 => by
    have := textsL_part r i
    show (textsT t ++ textsL (r.take i)).length ≤ (textsT t ++ textsL r).length
    rw [List.length_append, List.length_append]; omega
theorem textsT_pos (s : T) : 0 < (textsT s).length := by rw [textsT_eq, List.length_cons]; omega
end Sp
theorem tstr_one (l : List Sp.Bs) : ∀ u ∈ strsC l, u.oneCell' = true := fun u hu => by
  unfold strsC at hu
  obtain ⟨x, _, rfl⟩ := List.mem_map.1 hu
  rfl
theorem tstr_len (l : List Sp.Bs) : (strsC l).length = l.length := List.length_map ..
theorem tstr_cat (l m : List Sp.Bs) : strsC (l ++ m) = strsC l ++ strsC m := List.map_append ..
theorem cell_grown2 {w w' : World} {own : Option Nat} {g i : Nat} {u : Value} (hg : w.grownBy w' own) (hne : own ≠ some g) (c : w.cell? ⟨g, i, none⟩ = some u) : w'.cell? ⟨g, i, none⟩ = some u :=
  (World.cell?_of_block (hg.block g (World.block_lt_of_cell? w _ c) (fun e => hne e.symm))).trans c
set_option maxRecDepth 100000 in
set_option maxHeartbeats 4000000 in
theorem rtexts_step (m : List Sp.DE) (hm : Sp.GoodM m) (A : Option Addr) (cap : Nat) (d : Sp.Bs) (hd : Sp.Dir d) (s : Sp.T) (hok : Sp.Ok s) (hsz : Sp.sizeT s ≤ 128) (hsub : Sp.subs (Sp.toP m) (Sp.parts d) = Sp.entries s) (htl : (Sp.textsT s).length ≤ 600)
    (IH : ∀ i (h : i < s.kids.length) (w : World), EntsAt w A m → KeysAt w 0 → Calls Tryz.prog 14 #[.slice A m.length cap, .string (strOf (Sp.down d (s.kids[i]).1))] w fun e w' => ∃ v, e = .returned v ∧ w'.ownsRow w.heap.size 9 1 v (Sp.textsT (s.kids[i]).2).length (strsC (Sp.textsT (s.kids[i]).2)) ∧ Ext w w')
    (w : World) (hE : EntsAt w A m) (K : KeysAt w 0) :
    Calls Tryz.prog 14 #[.slice A m.length cap, .string (strOf d)] w fun e w' => ∃ v, e = .returned v ∧ w'.ownsRow w.heap.size 9 1 v (Sp.textsT s).length (strsC (Sp.textsT s)) ∧ Ext w w' := by
  have hnam : Sp.rnames d [] m = s.kids.map (·.1) := by
    rw [Sp.names_subs d hd m hm.1 [], hsub]
    cases s with
    | mk leaf k => exact Sp.namesE_entries leaf k hok.2.1 hok.2.2
  have dl51 := dir_len hd
  have RN := Lib.hid (rnode_calls m hm A cap 5 d s w (by omega) hd hok (by omega) hsub hE K)
  have NC := Lib.hid fun W (e : Ext w W) => rnames_own m A cap d W (hE.ext e) (Nat.le_trans hm.2 (by decide)) (Sp.good_len hm) (by omega)
  rw [hnam, List.length_map] at NC
  have hkl : s.kids.length ≤ 200 := by
    have h1 := Sp.kids_size s.kids (ok_rise hok).2
    have h2 := Sp.sizeT_n0 s
    omega
  have RB := Lib.hid (show ∀ A c B c' W, Vers W A s.leaf → Kids W B (Sp.nodeT s).2 → Calls Tryz.prog 29 #[nodeV A s.leaf.length c B s.kids.length c'] W fun e w' => e = .returned (.tuple #[.string (strOf (Sp.nbytes (Sp.nodeT s)).1), .int .i64 (Sp.nbytes (Sp.nodeT s)).2]) ∧ Ext W w' from fun A c B c' W hv hk => by
    have nl : (Sp.nodeT s).2.length = s.kids.length := by rw [nodeT_kids, List.length_map]
    have l0 : Sp.leaf s.leaf = 0 := by
      cases hs : s with
      | mk leaf kids =>
        rw [hs] at hok
        by_cases h0 : leaf = []
        · rw [h0]; rfl
        · exact hok.1 h0
    have := rnbytes_calls (Sp.nodeT s) A B c c' W (by rw [nodeT_leaf]; exact hv) hk (by rw [nodeT_leaf]; exact Nat.le_trans (Sp.leaf_ok l0).1 (by decide)) (by rw [nodeT_leaf]; exact fun v hv => ⟨Nat.le_trans (Sp.leaf_data l0 v hv) (by decide), Nat.le_trans ((Sp.leaf_fit fun _ => l0).2 v hv) (by decide)⟩) (by rw [nl]; omega)
    rw [nodeT_leaf, nl] at this
    exact this)
  have HIH := Lib.hid IH
  have HE := Lib.hid hE
  have KK := Lib.hid K
  have TE := Lib.hid (Sp.textsT_eq s)
  have TK := Lib.hid fun i h => Sp.textsL_take s.kids i h
  have TP := Lib.hid fun i => Sp.textsL_part s.kids i
  have NL := Lib.hid (show ∀ x ∈ s.kids, x.1.length ≤ 12 from fun x hx => Sp.name_len (Sp.kids_names s.kids (ok_rise hok).2 x hx))
  have htl2 : (Sp.textsL s.kids).length ≤ 600 := by rw [Sp.textsT_eq, List.length_cons] at htl; omega
  obtain ⟨b, hb⟩ : ∃ b, b = (Sp.nbytes (Sp.nodeT s)).1 := ⟨_, rfl⟩
  rw [← hb] at RB TE
  clear hnam IH hE K hsub hok hm hd hb htl hsz
  go_enter Tryz.func14, Tryz.ntmps14
  go_wp2_with fail
  refine RN.out.mono ?_
  rintro e w1 ⟨A1, c1, B1, c2, rfl, hv1, hk1, hb1⟩
  have E1 := Lib.hid hb1
  have RB1 := Lib.hid (RB.out A1 c1 B1 c2 w1 hv1 hk1)
  clear hv1 hk1 hb1 RB
  go_wp2_with fail
  refine RB1.out.mono ?_
  rintro e w2 ⟨rfl, hb2⟩
  have E2 := Lib.hid (E1.out.trans hb2)
  clear hb2 RB1
  go_upto_region 3 with fail
  obtain ⟨w3, hw3⟩ : ∃ w3, w3 = w2.alloc (.cells #[.string (strOf b)] 9) := ⟨_, rfl⟩
  have O3 := Lib.hid (show w3.ownsRow w.heap.size 9 1 (.slice (some ⟨w2.heap.size, 0, none⟩) 1 1) 1 (strsC [b]) by
    rw [hw3]
    exact ⟨rfl, .inr ⟨w2.heap.size, 1, _, rfl, E2.out.size, heap_alloc_new w2 _, Nat.le_refl _, by decide, rfl, rfl⟩⟩)
  have E3 := Lib.hid (E2.out.trans (show Ext w2 w3 by rw [hw3]; exact Ext.alloc _ _))
  have S3 := Lib.hid (show w2.heap.size < w3.heap.size by rw [hw3, World.size_alloc]; omega)
  rw [← hw3]
  clear hw3
  go_wp2_with fail
  refine (NC.out w3 E3.out).mono ?_
  rintro e w4 ⟨v4, rfl, hO4, hb4⟩
  obtain ⟨A4, c4, rfl, hc4⟩ := own_read hO4
  have N4 := Lib.hid hO4
  have NN := Lib.hid (show Nams w4 A4 (s.kids.map (·.1)) from hc4)
  have O4 := Lib.hid (own_ext O3.out hb4)
  have E4 := Lib.hid (E3.out.trans hb4)
  have hlen : (s.kids.map (·.1)).length = s.kids.length := List.length_map ..
  clear hO4 hc4 hb4 O3
  go_wp2
  go_loopw [7, 9] (fun v7 v9 wr => ∃ k : Nat, k ≤ s.kids.length ∧ v9 = .int .i64 k ∧ wr.ownsRow w.heap.size 9 1 v7 (1 + (Sp.textsL (s.kids.take k)).length) (strsC (b :: Sp.textsL (s.kids.take k))) ∧ (∀ g o, A4 = some ⟨g, o, none⟩ → v7.ownBlock ≠ some g ∧ g < wr.heap.size) ∧ Nams wr A4 (s.kids.map (·.1)) ∧ Ext w wr) (fun _ v9 _ => s.kids.length - (intOf v9).toNat)
  case atStart =>
    refine ⟨0, Nat.zero_le _, rfl, O4.out, fun g o hg => ?_, NN.out, E4.out⟩
    subst hg
    have h1 := N4.out.lt g rfl
    refine ⟨fun h => ?_, h1.2⟩
    have h2 : w2.heap.size = g := Option.some.inj h
    have := S3.out
    omega
  case round =>
    obtain ⟨k, hk, rfl, hO, hne, hN, hb⟩ := hrel
    have HB := Lib.hid hb
    have HO := Lib.hid hO
    have HN := Lib.hid hN
    have HNE := Lib.hid hne
    clear hO hne hN hb
    by_cases hlt : k < s.kids.length
    · obtain ⟨nb, no, rfl, hnm⟩ := HN.out.at (by simp; omega)
      have n0 := hnm k (by simpa using hlt)
      rw [List.getElem_map] at n0
      have IK := Lib.hid (HIH.out k hlt)
      have TKK := Lib.hid (TK.out k hlt)
      have tp := TP.out k
      have tp2 := TP.out (k + 1)
      rw [TKK.out, List.length_append] at tp2
      have xl := NL.out _ (List.getElem_mem hlt)
      obtain ⟨x, hxk⟩ : ∃ x, x = s.kids[k] := ⟨_, rfl⟩
      rw [← hxk] at n0 IK xl TKK tp2
      have b1 : (k : Int) < (s.kids.length : Int) := by omega
      have DC := Lib.hid (down_calls d x.1 wr (by omega) (by omega))
      obtain ⟨q, hq⟩ : ∃ q, q = Sp.textsL (s.kids.take k) := ⟨_, rfl⟩
      rw [← hq] at HO TKK tp tp2
      have X0 := Sp.textsT_pos x.2
      obtain ⟨y, hy⟩ : ∃ y, y = Sp.textsT x.2 := ⟨_, rfl⟩
      rw [← hy] at IK TKK tp2 X0
      obtain ⟨dn, hdn⟩ : ∃ dn, dn = Sp.down d x.1 := ⟨_, rfl⟩
      rw [← hdn] at DC IK
      clear hnm hxk hq hy hdn
      go_wp2_with fail
      refine DC.out.mono ?_
      rintro e w5 ⟨rfl, rfl⟩
      clear n0
      go_wp2_with fail
      refine (IK.out _ (HE.out.ext HB.out) (KK.out.ext HB.out)).mono ?_
      rintro e w6 ⟨v6, rfl, hO6, hb6⟩
      obtain ⟨A6, c6, rfl, hc6⟩ := own_read hO6
      have E6 := Lib.hid hb6
      have B6 := Lib.hid (HB.out.trans hb6)
      have N6 := Lib.hid (HN.out.ext hb6)
      obtain ⟨gx, ox, rfl, hcx⟩ := hc6 (by intro e; have := tstr_len y; rw [e] at this; simp at this; omega)
      have XC := Lib.hid hcx
      have nb6 := Lib.hid (show nb < wr.heap.size from (HNE.out nb no rfl).2)
      have ne6 := Lib.hid (show u7.ownBlock ≠ some nb from (HNE.out nb no rfl).1)
      have tokA : True := trivial
      clear hO6 hb6 hc6 hcx
      go_wp2_with (have _t := tokA; at_builtin; refine app_where appStr rfl _ _ rfl w.heap.size u7 (1 + q.length) _ rfl (own_ext HO.out E6.out) gx ox y.length c6 (strsC y) rfl X0 (by rw [tstr_len, Nat.mul_one]) XC.out (tstr_one y) (by omega) B6.out.size ?_; intro v7 w7 hown7 hgr7 hb7 hwh7; have O7 := Lib.hid hown7; have G7 := Lib.hid hgr7; have B7 := Lib.hid hb7; have W7 := Lib.hid hwh7; clear tokA _t hown7 hgr7 hb7 hwh7)
      have N7 := Lib.hid (show Nams w7 (some ⟨nb, no, none⟩) (s.kids.map (·.1)) from fun hn => by
        obtain ⟨g, o, hA, hc⟩ := N6.out hn
        cases hA
        exact ⟨nb, no, rfl, fun i u hu => cell_grown2 G7.out ne6.out (hc i u hu)⟩)
      go_roundw
      case rel =>
        refine ⟨k + 1, by omega, by go_num, ?_, fun g o hg => ?_, N7.out, Below.trans B6.out B7.out⟩
        · rw [TKK.out, List.length_append, ← List.cons_append, tstr_cat, ← Nat.add_assoc]
          exact O7.out
        · cases hg
          have h6 := E6.out.size
          have h7 := B7.out.size
          have h8 := nb6.out
          refine ⟨fun h => ?_, by omega⟩
          rcases W7.out with h9 | ⟨k9, h9, h10⟩
          · exact ne6.out (by rw [← h9]; exact h)
          · rw [h] at h10
            have : nb = k9 := Option.some.inj h10
            omega
      case measure => simp [intOf]; omega
    · obtain rfl : k = s.kids.length := by omega
      rw [List.take_length, ← TE.out] at HO
      have hl2 : 1 + (Sp.textsL s.kids).length = (Sp.textsT s).length := by rw [TE.out, List.length_cons]; omega
      rw [hl2] at HO
      clear hl2
      go_wp2
      go_ret
      exact ⟨_, rfl, HO.out, HB.out⟩
theorem rtexts_calls (m : List Sp.DE) (hm : Sp.GoodM m) (A : Option Addr) (cap : Nat) : ∀ (f : Nat) (d : Sp.Bs) (s : Sp.T) (w : World), 5 ≤ (Sp.parts d).length + f → Sp.Dir d → Sp.Ok s → Sp.sizeT s ≤ 128 → Sp.subs (Sp.toP m) (Sp.parts d) = Sp.entries s → (Sp.textsT s).length ≤ 600 → EntsAt w A m → KeysAt w 0 →
    Calls Tryz.prog 14 #[.slice A m.length cap, .string (strOf d)] w fun e w' => ∃ v, e = .returned v ∧ w'.ownsRow w.heap.size 9 1 v (Sp.textsT s).length (strsC (Sp.textsT s)) ∧ Ext w w'
  | 0, d, s, w, hf, _, _, _, _, _, _, _ => by have := Sp.parts_len d; omega
  | f + 1, d, s, w, hf, hd, hok, hsz, hsub, htl, hE, K =>
    rtexts_step m hm A cap d hd s hok hsz hsub htl (fun i h w2 hE2 K2 => by
      obtain ⟨k1, k2, k3, k4⟩ := Sp.kid_dir hm hd hok hsub i h
      refine rtexts_calls m hm A cap f (Sp.down d (s.kids[i]).1) (s.kids[i]).2 w2 ?_ k1 k4 ?_ k3 ?_ hE2 K2
      · rw [k2, List.length_append]
        show 5 ≤ (Sp.parts d).length + 1 + f
        omega
      · have h1 := Sp.kid_size s.kids (s.kids[i]).1 (s.kids[i]).2 (Sp.kid_at s.kids i h (ok_rise hok).1)
        have h2 := Sp.sizeT_n0 s
        omega
      · have h1 := Sp.textsL_part s.kids (i + 1)
        rw [Sp.textsL_take s.kids i h, List.length_append] at h1
        rw [Sp.textsT_eq, List.length_cons] at htl
        omega) w hE K
end Go.Proofs.YtmlkachfahabnaaGreatDoor
namespace Go.Proofs.YtmlkachfahabnaaGreatDoor
open Go.RowKit
open Go.Shelf
attribute [local go_sem] yUpon
end Go.Proofs.YtmlkachfahabnaaGreatDoor
namespace Go.Proofs.YtmlkachfahabnaaGreatDoor
open Go.RowKit Go.Shelf
attribute [local go_sem] yUpon strOf_toList
set_option maxRecDepth 100000 in
set_option maxHeartbeats 4000000 in
/-- One leaf. -/
theorem great7_calls (vs : List Sp.Ver) (A : Option Addr) (cap gb : Nat) (w : World) (hx : isBlk w gb 39 #[.slice A vs.length cap]) (h : Vers w A vs) :
    Calls Tryz.prog 15 #[.slice (some ⟨gb, 0, none⟩) 1 1] w fun e w' => ∃ b : Bool, e = .returned (.bool b) ∧ w = w' := by
  have HV := Lib.hid h
  have f0 := (hx.cell 0).trans rfl
  clear h hx
  go_enter Tryz.func15, Tryz.ntmps15
  go_wp2
  go_loopw [3] (fun v3 wr => ∃ k : Nat, k ≤ 1 ∧ v3 = .int .i64 k ∧ w = wr) (fun v3 _ => 1 - (intOf v3).toNat)
  case atStart => exact ⟨0, Nat.zero_le _, rfl, rfl⟩
  case round =>
    obtain ⟨k, hk, rfl, rfl⟩ := hrel
    by_cases hlt : k < 1
    · obtain rfl : k = 0 := by omega
      by_cases h70 : 70 < vs.length
      · have c1 : (70 : Int) < (vs.length : Int) := by omega
        go_wp2
        go_ret
        exact ⟨true, rfl, rfl⟩
      · have c1 : ¬ (70 : Int) < (vs.length : Int) := by omega
        have c2 : vs.length ≤ 70 := by omega
        go_wp2
        go_loopw [4, 5] (fun v4 v5 wr => ∃ (j n : Nat), j ≤ vs.length ∧ n ≤ 400 ∧ v4 = .int .i64 n ∧ v5 = .int .i64 j ∧ w = wr) (fun _ v5 _ => vs.length - (intOf v5).toNat)
        case atStart => exact ⟨0, 0, Nat.zero_le _, Nat.zero_le _, rfl, rfl, rfl⟩
        case round =>
          obtain ⟨j, n, hj, hn, rfl, rfl, rfl⟩ := hrel
          by_cases hjl : j < vs.length
          · obtain ⟨a, o, rfl, hat⟩ := HV.out.at (by omega)
            obtain ⟨A', cap', hv, hp⟩ := hat j hjl
            obtain ⟨x, hxx⟩ : ∃ x, x = vs[j] := ⟨_, rfl⟩
            rw [← hxx] at hv hp
            have g2 := hv.c2
            have g4 := hv.c4
            have hpl := hp.2
            obtain ⟨q, hq⟩ : ∃ q, q = x.past.length := ⟨_, rfl⟩
            rw [← hq] at g2 hpl
            obtain ⟨n2, hn2⟩ : ∃ n2, n2 = n + q := ⟨_, rfl⟩
            have w1 : IntKind.i64.wrap ((n : Int) + (q : Int)) = (n2 : Int) := by rw [IntKind.wrap_i64]; omega
            have b1 : (j : Int) < (vs.length : Int) := by omega
            clear hat hv hp hxx hq hn2
            by_cases h4 : 400 < n2
            · have e1 : (400 : Int) < (n2 : Int) := by omega
              go_wp2
              go_ret
              exact ⟨true, rfl, rfl⟩
            · have e1 : ¬ (400 : Int) < (n2 : Int) := by omega
              have e2 : n2 ≤ 400 := by omega
              by_cases h2 : 200 < (strOf x.data).size
              · have e3 : (200 : Int) < ((strOf x.data).size : Int) := by omega
                go_wp2
                go_ret
                first
                  | exact ⟨true, rfl, rfl⟩
                  | exact .inr rfl
                  | exact .inr ⟨rfl, rfl⟩
                  | (simp; done)
              · have e3 : ¬ (200 : Int) < ((strOf x.data).size : Int) := by omega
                go_wp2
                go_roundw
                case rel => exact ⟨j + 1, n2, by omega, e2, rfl, by go_num, by first | rfl | trivial⟩
                case measure => simp [intOf]; omega
          · obtain rfl : j = vs.length := by omega
            go_wp2
            go_roundw
            case rel => exact ⟨1, Nat.le_refl _, by go_num, by first | rfl | trivial⟩
            case measure => simp [intOf]
    · obtain rfl : k = 1 := by omega
      go_wp2
      go_ret
      exact ⟨false, rfl, rfl⟩
set_option maxRecDepth 100000 in
set_option maxHeartbeats 4000000 in
/-- Entries: what holds if they are not too much. -/
theorem great15_calls (l : List Sp.DE) (A : Option Addr) (cap most : Nat) (w : World) (h : EntsAt w A l) (hmost : most ≤ 1000) :
    Calls Tryz.prog 4 #[.slice A l.length cap, .int .i64 most] w fun e w' => ∃ b : Bool, e = .returned (.bool b) ∧ (b = false → l.length ≤ most ∧ ∀ e ∈ l, e.1.length ≤ 200) ∧ Ext w w' := by
  have HH := Lib.hid h
  clear h
  go_enter Tryz.func4, Tryz.ntmps4
  by_cases hm : most < l.length
  · have c1 : (most : Int) < (l.length : Int) := by omega
    go_wp2
    go_ret
    exact ⟨true, rfl, (fun h => by cases h), Ext.refl _⟩
  · have c1 : ¬ (most : Int) < (l.length : Int) := by omega
    have c0 : l.length ≤ most := by omega
    have CM := Lib.hid c0
    have cl : l.length ≤ 1000 := by omega
    go_wp2
    go_loopw [5] (fun v5 wr => ∃ k : Nat, k ≤ l.length ∧ v5 = .int .i64 k ∧ (∀ i (h : i < l.length), i < k → (l[i]).1.length ≤ 200) ∧ Ext w wr) (fun v5 _ => l.length - (intOf v5).toNat)
    case atStart => exact ⟨0, Nat.zero_le _, rfl, fun i h h0 => absurd h0 (Nat.not_lt_zero i), Ext.refl _⟩
    case round =>
      obtain ⟨k, hk, rfl, ha, hb⟩ := hrel
      have HA := Lib.hid ha
      have HB := Lib.hid hb
      clear ha
      by_cases hlt : k < l.length
      · obtain ⟨eb, eo, rfl, he⟩ := HH.out.at (by omega)
        obtain ⟨Av, cv, e0, e1, hv⟩ := he k hlt
        have e0' := hb.cell e0
        have e1' := hb.cell e1
        obtain ⟨x, hx⟩ : ∃ x, x = l[k] := ⟨_, rfl⟩
        rw [← hx] at e0' e1' hv
        have HX := Lib.hid hx
        have HV := Lib.hid hv
        have b1 : (k : Int) < (l.length : Int) := by omega
        clear he e0 e1 hx hv hb
        by_cases h2 : 200 < (strOf x.1).size
        · have d1 : (200 : Int) < ((strOf x.1).size : Int) := by omega
          go_wp2
          go_ret
          exact ⟨true, rfl, (fun h => by cases h), HB.out⟩
        · have d1 : ¬ (200 : Int) < ((strOf x.1).size : Int) := by omega
          have P200 := Lib.hid (show x.1.length ≤ 200 by rw [strOf_size] at h2; omega)
          go_wp2_with fail
          have GC := great7_calls x.2 Av cv wr.heap.size (wr.alloc (.cells #[.slice Av x.2.length cv] 39)) (heap_alloc_new _ _) (HV.out.ext (HB.out.trans (Ext.alloc _ _)))
          refine GC.mono ?_
          rintro e w1 ⟨b, rfl, hw1⟩
          have B1 := Lib.hid (show Ext w w1 by rw [← hw1]; exact HB.out.trans (Ext.alloc _ _))
          clear hw1 GC
          cases b with
          | true =>
            go_wp2
            go_ret
            exact ⟨true, rfl, (fun h => by cases h), B1.out⟩
          | false =>
            go_wp2
            refine ⟨⟨k + 1, by omega, by go_num, fun i hi h1 => ?_, B1.out⟩, by simp [intOf]; omega⟩
            by_cases hik : i = k
            · subst hik
              have := P200.out
              rw [HX.out] at this
              exact this
            · exact HA.out i hi (by omega)
      · obtain rfl : k = l.length := by omega
        go_wp2
        go_ret
        exact ⟨false, rfl, fun _ => ⟨CM.out, fun e he => by
          obtain ⟨i, hi, rfl⟩ := List.getElem_of_mem he
          exact HA.out i hi hi⟩, HB.out⟩
end Go.Proofs.YtmlkachfahabnaaGreatDoor
namespace Go.Proofs.YtmlkachfahabnaaGreatDoor
open Go.RowKit
namespace Sp
theorem nil_bytes : nbytes (nodeT .nil) = ([0, 0], 0) := by
  first | kernel_rfl | decide
theorem nil_sum : nsum (nodeT .nil) = sha [0, 0] := by
  unfold nsum
  rw [nil_bytes, if_neg (by decide)]
/-- The example's version, its path, its tree. -/
def exV : Ver := ⟨(1, 1), [], false, [120]⟩
def exP : Bs := [97, 47, 98]
theorem ex_code : setCode none exP [exV] = 0 := by rfl
theorem ex_len : (entriesO (withO none (split exP) [exV])).length = 1 := by rfl
theorem ex_find : (findS ((withO none (split exP) [exV]).getD .nil) [97]).isSome = true := by rfl
theorem ex_get : (nodeS ((withO none (split exP) [exV]).getD .nil) exP).1.length = 1 := by rfl
end Sp
end Go.Proofs.YtmlkachfahabnaaGreatDoor
