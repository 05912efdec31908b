/- Walks: the document's node of a directory is the tree's. What is found in a tree is what the document's list has there: plain. Walks: Dirs, of the program and of the document. Walks: texts that are the same; the first path behind a text; what holds of a tree and the document's list. Deltas: a name below a directory; do two lists differ at a directory? Deltas: a text in a rising list; the names below a directory, of two lists. Deltas: the names right below a directory, of two lists. An append of cells, and where the row lies then: where it lay, or in a new block. Deltas: which directories the document opens. -/
import Derived.Test.YtmlfnidckfeebaaGreatDoorQQ021
import Derived.Test.YtmlfnidckfeebaaGreatDoorQQ031
namespace Go.Proofs.YtmlfnidckfeebaaGreatDoor
open Go.RowKit Go.Shelf
theorem rnode_calls (m : List Sp.DE) (hm : Sp.GoodM m) (A : Option Addr) (cap : Nat) : ∀ (f : Nat) (d : Sp.Bs) (s : Sp.T) (w : World), 5 ≤ (Sp.parts d).length + f → Sp.Dir d → Sp.Ok s → Sp.sizeT s ≤ 200 → Sp.subs (Sp.toP m) (Sp.parts d) = Sp.entries s → EntsAt w A m → KeysAt w 0 →
    Calls Tryz.prog 149 #[.slice A m.length cap, .string (strOf d)] w fun e w' => ∃ A2 c2 B2 c3, e = .returned (nodeV A2 s.leaf.length c2 B2 s.kids.length c3) ∧ Vers w' A2 s.leaf ∧ Kids w' B2 (Sp.nodeT s).2 ∧ Ext w w'
  | 0, d, s, w, hf, _, _, _, _, _, _ => by have := Sp.parts_len d; omega
  | f + 1, d, s, w, hf, hd, hok, hsz, hsub, hE, K =>
    rnode_step m hm A cap d hd (Nat.le_trans (dir_len hd) (by decide)) s hok hsz hsub (fun i h w2 hE2 K2 => by
      obtain ⟨k1, k2, k3, k4⟩ := Sp.kid_dir hm hd hok hsub i h
      refine rnode_calls m hm A cap f (Sp.down d (s.kids[i]).1) (s.kids[i]).2 w2 ?_ k1 k4 ?_ k3 hE2 K2
      · rw [k2, List.length_append]
        show 5 ≤ (Sp.parts d).length + 1 + f
        omega
      · have h1 := Sp.kid_size s.kids (s.kids[i]).1 (s.kids[i]).2 (Sp.kid_at s.kids i h (ok_rise hok).1)
        have h2 := Sp.sizeT_n0 s
        omega) w hE K
end Go.Proofs.YtmlfnidckfeebaaGreatDoor
namespace Go.Proofs.YtmlfnidckfeebaaGreatDoor
open Go.RowKit
section
variable {P : Program} {ops : Array Oper} {T : World → Prop}
end
namespace Sp
theorem find_both {o : Option T} {m : List DE} (he : toP m = entriesO o) (ho : GoodO o) (hm : GoodM m) {d : Bs} {s : T} (h : findS (o.getD .nil) d = some s) :
    Dir d ∧ Ok s ∧ sizeT s ≤ 128 ∧ subs (toP m) (parts d) = entries s := by
  have hf : Dir d ∧ findT (o.getD .nil) (parts d) = some s := by
    unfold findS at h
    by_cases h0 : d = []
    · rw [if_pos h0] at h
      subst h0
      exact ⟨.inl rfl, h⟩
    · rw [if_neg h0] at h
      by_cases h1 : parts d = []
      · rw [if_pos h1] at h; cases h
      · rw [if_neg h1] at h
        exact ⟨.inr (check_of_parts h1), h⟩
  obtain ⟨h1, h2⟩ := at_both he ho hm d hf.1
  refine ⟨hf.1, (h2 s hf.2).1, ?_, by rw [h1, hf.2]; rfl⟩
  have h3 := findT_small _ _ _ hf.2
  rw [getD_size] at h3
  exact Nat.le_trans h3 ho.2
end Sp
end Go.Proofs.YtmlfnidckfeebaaGreatDoor
namespace Go.Proofs.YtmlfnidckfeebaaGreatDoor
open Go.RowKit Go.Shelf
attribute [local go_sem] yUpon strOf_toList
namespace Sp
end Sp
theorem rpparts_calls (s : Sp.Bs) (w : World) (hs : s.length ≤ 1000000) : Calls Tryz.prog 80 #[.string (strOf s)] w fun e w' => ∃ A c, e = .returned (.slice A (Sp.parts s).length c) ∧ Nams w' A (Sp.parts s) ∧ Ext w w' :=
  (rparts_calls (strOf s) w (by rw [strOf_size]; omega)).mono (by
    intro e w1 ht
    obtain ⟨A, c, h1, _, h2, h3⟩ := ht.nams
    rw [strOf_data] at h1 h2
    exact ⟨A, c, h1, h2, h3⟩)
end Go.Proofs.YtmlfnidckfeebaaGreatDoor
namespace Go.Proofs.YtmlfnidckfeebaaGreatDoor
open Go.RowKit Go.Shelf
attribute [local go_sem] yUpon strOf_toList
namespace Sp
theorem Both.mlen {o : Option T} {m : List DE} (h : Both o m) : ∀ e ∈ m, e.1.length ≤ 1000000 := fun e he => Nat.le_trans (check_parts (h.gm.1 e he)).2.1 (by decide)
end Sp
end Go.Proofs.YtmlfnidckfeebaaGreatDoor
namespace Go.Proofs.YtmlfnidckfeebaaGreatDoor
open Go.RowKit Go.Shelf
attribute [local go_sem] yUpon strOf_toList
namespace Sp
end Sp
theorem rnode_sum (s : Sp.T) (hok : Sp.Ok s) (hk : s.kids.length ≤ 200) (A B : Option Addr) (c c' : Nat) (W : World) (hv : Vers W A s.leaf) (hB : Kids W B (Sp.nodeT s).2) (K : KeysAt W 0) :
    Calls Tryz.prog 217 #[nodeV A s.leaf.length c B s.kids.length c'] W fun e w' => e = .returned (digV (Sp.nsum (Sp.nodeT s))) ∧ Ext W w' := by
  have nl : (Sp.nodeT s).2.length = s.kids.length := by rw [nodeT_kids, List.length_map]
  have l0 : Sp.leaf s.leaf = 0 := by
    cases hs : s with
    | mk leaf kids =>
      rw [hs] at hok
      by_cases h0 : leaf = []
      · rw [h0]; rfl
      · exact hok.1 h0
  have := rnsum_calls (Sp.nodeT s) A B c c' W (by rw [nodeT_leaf]; exact hv) hB (by rw [nodeT_leaf]; exact Nat.le_trans (Sp.leaf_ok l0).1 (by decide)) (by rw [nodeT_leaf]; exact fun v hv => ⟨Nat.le_trans (Sp.leaf_data l0 v hv) (by decide), Nat.le_trans ((Sp.leaf_fit fun _ => l0).2 v hv) (by decide)⟩) (by rw [nl]; omega) K
  rw [nodeT_leaf, nl] at this
  exact this
set_option maxRecDepth 100000 in
set_option maxHeartbeats 4000000 in
theorem rdiffers_calls (oa ob : Option Sp.T) (ma mb : List Sp.DE) (PA : Sp.Both oa ma) (PB : Sp.Both ob mb) (A B : Option Addr) (cap cap' : Nat) (d : Sp.Bs) (hdl : d.length ≤ 1000) (w : World) (hA : EntsAt w A ma) (hB : EntsAt w B mb) (K : KeysAt w 0) :
    Calls Tryz.prog 141 #[.slice A ma.length cap, .slice B mb.length cap', .string (strOf d)] w fun e w' => e = .returned (.bool (Sp.diffS oa ob d)) ∧ Ext w w' := by
  have TA := Lib.hid (rthere_calls ma A cap d w hA (Nat.le_trans PA.gm.2 (by decide)) PA.mlen (by omega))
  have TB := Lib.hid fun W (e : Ext w W) => rthere_calls mb B cap' d W (hB.ext e) (Nat.le_trans PB.gm.2 (by decide)) PB.mlen (by omega)
  rw [Sp.there_both PA.eq PA.go PA.gm d] at TA
  rw [Sp.there_both PB.eq PB.go PB.gm d] at TB
  have DS := Lib.hid (show Sp.diffS oa ob d = match Sp.findS (oa.getD .nil) d, Sp.findS (ob.getD .nil) d with | some s, some t => decide (Sp.nsum (Sp.nodeT s) ≠ Sp.nsum (Sp.nodeT t)) | none, none => false | _, _ => true from rfl)
  have FA := Lib.hid fun s (h : Sp.findS (oa.getD .nil) d = some s) => Sp.find_both PA.eq PA.go PA.gm h
  have FB := Lib.hid fun s (h : Sp.findS (ob.getD .nil) d = some s) => Sp.find_both PB.eq PB.go PB.gm h
  have GA := Lib.hid PA.gm
  have GB := Lib.hid PB.gm
  have HA := Lib.hid hA
  have HB := Lib.hid hB
  have KK := Lib.hid K
  clear PA PB hA hB K
  go_enter Tryz.func141, Tryz.ntmps141
  go_wp2_with fail
  refine TA.out.mono ?_
  rintro e w1 ⟨rfl, hb1⟩
  have E1 := Lib.hid hb1
  clear hb1
  go_wp2_with fail
  refine (TB.out w1 E1.out).mono ?_
  rintro e w2 ⟨rfl, hb2⟩
  have E2 := Lib.hid (E1.out.trans hb2)
  clear hb2 TA TB
  cases ha : Sp.findS (oa.getD .nil) d with
  | none =>
    cases hb : Sp.findS (ob.getD .nil) d with
    | none =>
      rw [ha, hb] at DS
      go_wp2
      go_ret
      exact ⟨by rw [DS.out]; rfl, E2.out⟩
    | some t =>
      rw [ha, hb] at DS
      go_wp2
      go_ret
      exact ⟨by rw [DS.out]; rfl, E2.out⟩
  | some s =>
    cases hb : Sp.findS (ob.getD .nil) d with
    | none =>
      rw [ha, hb] at DS
      go_wp2
      go_ret
      exact ⟨by rw [DS.out]; rfl, E2.out⟩
    | some t =>
      rw [ha, hb] at DS
      obtain ⟨d1, a2, a3, a4⟩ := FA.out s ha
      obtain ⟨_, b2, b3, b4⟩ := FB.out t hb
      have ka : s.kids.length ≤ 200 := by
        have h1 := Sp.kids_size s.kids (ok_rise a2).2
        have h2 := Sp.sizeT_n0 s
        omega
      have kb : t.kids.length ≤ 200 := by
        have h1 := Sp.kids_size t.kids (ok_rise b2).2
        have h2 := Sp.sizeT_n0 t
        omega
      have NA := Lib.hid fun W (e : Ext w W) => rnode_calls ma GA.out A cap 5 d s W (by omega) d1 a2 (by omega) a4 (HA.out.ext e) (KK.out.ext e)
      have NB := Lib.hid fun W (e : Ext w W) => rnode_calls mb GB.out B cap' 5 d t W (by omega) d1 b2 (by omega) b4 (HB.out.ext e) (KK.out.ext e)
      have SA := Lib.hid fun A B c c' W hv hB K => rnode_sum s a2 ka A B c c' W hv hB K
      have SB := Lib.hid fun A B c c' W hv hB K => rnode_sum t b2 kb A B c c' W hv hB K
      obtain ⟨x, hx⟩ : ∃ x, x = Sp.nsum (Sp.nodeT s) := ⟨_, rfl⟩
      obtain ⟨y, hy⟩ : ∃ y, y = Sp.nsum (Sp.nodeT t) := ⟨_, rfl⟩
      have hq := fun W => dig_eqv x y (by rw [hx]; exact Sp.nsum_len _) (by rw [hy]; exact Sp.nsum_len _) W
      have hg := dig_guard
      rw [← hx] at SA
      rw [← hy] at SB
      have DS2 := Lib.hid (show Sp.diffS oa ob d = !(x == y) by
        rw [DS.out, hx, hy]
        show decide (Sp.nsum (Sp.nodeT s) ≠ Sp.nsum (Sp.nodeT t)) = _
        by_cases h : Sp.nsum (Sp.nodeT s) = Sp.nsum (Sp.nodeT t) <;> simp [h])
      obtain ⟨q, hqq⟩ : ∃ q, q = (x == y) := ⟨_, rfl⟩
      rw [← hqq] at hq DS2
      clear ha hb d1 a2 a3 a4 b2 b3 b4 ka kb hx hy hqq DS FA FB
      go_wp2_with fail
      refine (NA.out w2 E2.out).mono ?_
      rintro e w3 ⟨A3, c3, B3, c3', rfl, hv3, hk3, hb3⟩
      have E3 := Lib.hid (E2.out.trans hb3)
      have S3 := Lib.hid (SA.out A3 B3 c3 c3' w3 hv3 hk3 (KK.out.ext E3.out))
      clear hv3 hk3 hb3
      go_wp2_with fail
      refine S3.out.mono ?_
      rintro e w4 ⟨rfl, hb4⟩
      have E4 := Lib.hid (E3.out.trans hb4)
      clear hb4 S3
      go_wp2_with fail
      refine (NB.out w4 E4.out).mono ?_
      rintro e w5 ⟨A5, c5, B5, c5', rfl, hv5, hk5, hb5⟩
      have E5 := Lib.hid (E4.out.trans hb5)
      have S5 := Lib.hid (SB.out A5 B5 c5 c5' w5 hv5 hk5 (KK.out.ext E5.out))
      clear hv5 hk5 hb5
      go_wp2_with fail
      refine S5.out.mono ?_
      rintro e w6 ⟨rfl, hb6⟩
      have E6 := Lib.hid (E5.out.trans hb6)
      clear hb6 S5
      go_wp2
      go_ret
      exact ⟨by rw [DS2.out]; rfl, E6.out⟩
end Go.Proofs.YtmlfnidckfeebaaGreatDoor
namespace Go.Proofs.YtmlfnidckfeebaaGreatDoor
open Go.RowKit Go.Shelf
attribute [local go_sem] yUpon strOf_toList
namespace Sp
end Sp
set_option maxRecDepth 100000 in
set_option maxHeartbeats 4000000 in
theorem put18_own (l : List Sp.Bs) (A : Option Addr) (cap : Nat) (s : Sp.Bs) (w : World) (h : Nams w A l) (hl : l.length ≤ 1000) (hs : ∀ x ∈ l, x.length ≤ 1000000) (hsl : s.length ≤ 1000000) :
    Calls Tryz.prog 218 #[.slice A l.length cap, .string (strOf s)] w fun e w' => ∃ v, e = .returned v ∧ w'.ownsRow w.heap.size 9 1 v (Sp.put18 s false l).length (strsC (Sp.put18 s false l)) ∧ Ext w w' := by
  have HH := Lib.hid h
  have HS := Lib.hid hs
  clear h hs
  go_enter Tryz.func218, Tryz.ntmps218
  go_wp2
  go_loopw [5, 6, 7] (fun v5 v6 v7 wr => ∃ (k : Nat) (out : List Sp.Bs) (b : Bool), k ≤ l.length ∧ v6 = .bool b ∧ v7 = .int .i64 k ∧ wr.ownsRow w.heap.size 9 1 v5 out.length (strsC out) ∧ out.length ≤ 2 * k ∧ out ++ Sp.put18 s b (l.drop k) = Sp.put18 s false l ∧ Ext w wr) (fun _ _ v7 _ => l.length - (intOf v7).toNat)
  case atStart => exact ⟨0, [], false, Nat.zero_le _, rfl, rfl, World.ownsRow_nil _ _ _ _, Nat.zero_le _, rfl, Ext.refl _⟩
  case round =>
    obtain ⟨k, out, b, hk, rfl, rfl, ho, hol, hr, hb⟩ := hrel
    have HO := Lib.hid ho
    have HB := Lib.hid hb
    by_cases hlt : k < l.length
    · obtain ⟨sb, so, rfl, hc⟩ := HH.out.at (by omega)
      have C0 := Lib.hid (hc k hlt)
      have XL := HS.out _ (List.getElem_mem hlt)
      rw [List.drop_eq_getElem_cons hlt, Sp.put18] at hr
      obtain ⟨x, hx⟩ : ∃ x, x = l[k] := ⟨_, rfl⟩
      rw [← hx] at C0 XL hr
      have HR := Lib.hid hr
      have kb : (k : Int) < (l.length : Int) := by omega
      have f0 := HB.out.cell C0.out
      obtain ⟨le, hle⟩ : ∃ le, le = decide (Sp.compare s x ≤ 0) := ⟨_, rfl⟩
      have HLE := Lib.hid hle
      have HR2 := Lib.hid (show out ++ (((if b = false ∧ le = true then [s] else []) ++ (if x = s then [] else [x])) ++ Sp.put18 s (b || le) (l.drop (k + 1))) = Sp.put18 s false l by
        rw [← hr, hle]
        simp only [decide_eq_true_eq])
      clear ho hr hb hc hx hle HR f0
      go_upto_region 6 with fail
      go_cut [6, 24] (fun v6 v24 wx => v6 = .bool b ∧ v24 = .bool (!b && le) ∧ Ext wr wx)
      case first =>
        have f0 := HB.out.cell C0.out
        cases b with
        | true =>
          go_wp2
          go_meet
          case rel => exact ⟨rfl, rfl, Ext.refl _⟩
        | false =>
          go_wp2_with fail
          refine (rcompare_calls (strOf s) (strOf x) wr (by rw [strOf_size]; omega) (by rw [strOf_size]; omega)).mono ?_
          rintro e w3 ⟨rfl, hb3⟩
          rw [strOf_data, strOf_data]
          have B3 := Lib.hid (show Ext wr w3 from hb3)
          obtain ⟨cc, hcc⟩ : ∃ cc, cc = Sp.compare s x := ⟨_, rfl⟩
          rw [← hcc]
          have HCC := Lib.hid (show le = decide (cc ≤ 0) by rw [hcc]; exact HLE.out)
          clear hb3 hcc
          by_cases hc0 : cc ≤ 0
          · have r := Lib.hid (show le = true by rw [HCC.out]; exact decide_eq_true hc0)
            go_wp2
            go_meet
            case rel => exact ⟨rfl, by rw [r.out]; first | rfl | (simp; omega), B3.out⟩
          · have r := Lib.hid (show le = false by rw [HCC.out]; exact decide_eq_false hc0)
            go_wp2
            go_meet
            case rel => exact ⟨rfl, by rw [r.out]; first | rfl | (simp; omega), B3.out⟩
      case rest =>
        obtain ⟨rfl, rfl, hb3⟩ := hcut
        obtain ⟨w3, hw3⟩ : ∃ w3, w3 = wc := ⟨_, rfl⟩
        rw [← hw3] at hb3 ⊢
        have B3 := Lib.hid (show Ext wr w3 from hb3)
        have E3 := Lib.hid (HB.out.trans hb3)
        have O3 := Lib.hid (own_ext HO.out hb3)
        obtain ⟨out1, ho1⟩ : ∃ out1, out1 = out ++ (if b = false ∧ le = true then [s] else []) := ⟨_, rfl⟩
        have RS1 := Lib.hid (show out1 ++ ((if x = s then [] else [x]) ++ Sp.put18 s (b || le) (l.drop (k + 1))) = Sp.put18 s false l by
          rw [ho1, ← HR2.out]
          simp only [List.append_assoc])
        have HO1 := Lib.hid ho1
        have L1 : out1.length ≤ 2 * k + 1 := by
          rw [ho1, List.length_append]
          split <;> simp <;> omega
        obtain ⟨ins, hins⟩ : ∃ ins, ins = (!b && le) := ⟨_, rfl⟩
        rw [← hins]
        have HINS := Lib.hid hins
        clear hb3 hw3 ho1 hins HR2 HLE
        go_upto_if 24 with fail
        go_cut [5, 6, 24] (fun v5 v6 _ wy => ∃ v1, v1 = v5 ∧ v6 = .bool (b || le) ∧ wy.ownsRow w.heap.size 9 1 v1 out1.length (strsC out1) ∧ Ext w wy)
        case first =>
          cases ins with
          | true =>
            have hbl : b = false ∧ le = true := by have := HINS.out; revert this; cases b <;> cases le <;> simp
            have HO2 := Lib.hid (show out1 = out ++ [s] by rw [HO1.out, if_pos hbl])
            have BL := Lib.hid (show (b || le) = true by rw [hbl.2]; simp)
            have tokA : True := trivial
            clear hbl
            go_wp2_with (have _t := tokA; at_builtin; refine app_new appStr rfl _ _ rfl w.heap.size _ out.length _ rfl O3.out #[.string (strOf s)] 9 1 rfl rfl (by intro u hu; simp at hu; subst hu; rfl) (by decide) (by omega) E3.out.size ?_; intro g9 cap9 w9 hown9 hgr9 hb9 hbg9; have O9 := Lib.hid hown9; have B9 := Lib.hid (Below.trans E3.out hb9); clear tokA _t hown9 hgr9 hb9 hbg9)
            go_meet
            case rel =>
              refine ⟨_, rfl, by rw [BL.out], ?_, B9.out⟩
              rw [HO2.out, List.length_append, strsC, List.map_append]
              exact O9.out
          | false =>
            have hbl : ¬ (b = false ∧ le = true) := by have := HINS.out; revert this; cases b <;> cases le <;> simp
            have HO2 := Lib.hid (show out1 = out by rw [HO1.out, if_neg hbl, List.append_nil])
            have BL := Lib.hid (show (b || le) = b by revert hbl; cases b <;> cases le <;> simp)
            clear hbl
            go_wp2
            go_meet
            case rel => exact ⟨_, rfl, by rw [BL.out], by rw [HO2.out]; exact O3.out, E3.out⟩
        case rest =>
          obtain ⟨v1, rfl, rfl, hO4, hb4⟩ := hcut
          obtain ⟨w4, hw4⟩ : ∃ w4, w4 = wc := ⟨_, rfl⟩
          rw [← hw4] at hO4 hb4 ⊢
          have O4 := Lib.hid hO4
          have E4 := Lib.hid (show Ext w w4 from hb4)
          obtain ⟨b2, hb2⟩ : ∃ b2, b2 = (b || le) := ⟨_, rfl⟩
          rw [← hb2] at RS1 ⊢
          have f0 := E4.out.cell C0.out
          clear hO4 hb4 hw4 hb2 HINS HO1 O3 HO
          by_cases hxs : x = s
          · have q1 : (x == s) = true := by rw [hxs]; exact beq_self_eq_true _
            have RS2 := Lib.hid (show out1 ++ Sp.put18 s b2 (l.drop (k + 1)) = Sp.put18 s false l by rw [← RS1.out, if_pos hxs, List.nil_append])
            clear hxs
            go_wp2
            go_roundw
            case rel => exact ⟨k + 1, out1, b2, by omega, rfl, by go_num, O4.out, by omega, RS2.out, E4.out⟩
            case measure => simp [intOf]; omega
          · have q1 : (x == s) = false := by rw [beq_eq_false_iff_ne]; exact hxs
            have RS2 := Lib.hid (show (out1 ++ [x]) ++ Sp.put18 s b2 (l.drop (k + 1)) = Sp.put18 s false l by rw [← RS1.out, if_neg hxs, List.append_assoc])
            have tokA : True := trivial
            clear hxs
            go_wp2_with (have _t := tokA; at_builtin; refine app_new appStr rfl _ _ rfl w.heap.size _ out1.length _ rfl O4.out #[.string (strOf x)] 9 1 rfl rfl (by intro u hu; simp at hu; subst hu; rfl) (by decide) (by omega) E4.out.size ?_; intro g9 cap9 w9 hown9 hgr9 hb9 hbg9; have O9 := Lib.hid hown9; have B9 := Lib.hid (Below.trans E4.out hb9); clear tokA _t hown9 hgr9 hb9 hbg9)
            go_roundw
            case rel =>
              refine ⟨k + 1, out1 ++ [x], b2, by omega, rfl, by go_num, ?_, by rw [List.length_append, List.length_singleton]; omega, RS2.out, B9.out⟩
              rw [List.length_append, strsC, List.map_append]
              exact O9.out
            case measure => simp [intOf]; omega
    · obtain rfl : k = l.length := by omega
      rw [List.drop_length, Sp.put18] at hr
      cases b with
      | true =>
        have R := Lib.hid (show Sp.put18 s false l = out by rw [← hr]; simp)
        clear ho hr hb
        go_wp2
        go_ret
        rw [R.out]
        exact ⟨_, rfl, HO.out, HB.out⟩
      | false =>
        have R := Lib.hid (show Sp.put18 s false l = out ++ [s] by rw [← hr]; simp)
        have tokA : True := trivial
        clear ho hr hb
        go_wp2_with (have _t := tokA; at_builtin; refine app_new appStr rfl _ _ rfl w.heap.size _ out.length _ rfl HO.out #[.string (strOf s)] 9 1 rfl rfl (by intro u hu; simp at hu; subst hu; rfl) (by decide) (by omega) HB.out.size ?_; intro g9 cap9 w9 hown9 hgr9 hb9 hbg9; have B9 := Lib.hid (show Ext w w9 from Below.trans HB.out hb9); obtain ⟨v9, hv9⟩ : ∃ v9, v9 = Value.slice (some ⟨g9, 0, none⟩) (out.length + 1) cap9 := ⟨_, rfl⟩; rw [← hv9] at hown9 ⊢; have O9 := Lib.hid hown9; clear tokA _t hown9 hgr9 hb9 hbg9 hv9)
        have O10 : w9.ownsRow w.heap.size 9 1 v9 (Sp.put18 s false l).length (strsC (Sp.put18 s false l)) := by
          rw [R.out, show strsC (out ++ [s]) = strsC out ++ [.string (strOf s)] from List.map_append .., List.length_append]
          exact O9.out
        have O11 := Lib.hid O10
        clear O10 O9
        go_ret
        exact ⟨_, rfl, O11.out, B9.out⟩
end Go.Proofs.YtmlfnidckfeebaaGreatDoor
namespace Go.Proofs.YtmlfnidckfeebaaGreatDoor
open Go.RowKit Go.Shelf
attribute [local go_sem] yUpon strOf_toList
namespace Sp
end Sp
theorem entsC_cat2 (a b : List (Option Addr × Nat × Sp.DE)) : entsC (a ++ b) = entsC a ++ entsC b := by
  induction a with
  | nil => rfl
  | cons x r ih => rw [List.cons_append, entsC, ih, entsC, List.append_assoc]
set_option maxRecDepth 100000 in
set_option maxHeartbeats 4000000 in
theorem below18_calls (ma mb : List Sp.DE) (A B : Option Addr) (cap cap' : Nat) (d : Sp.Bs) (hdl : d.length ≤ 1000) (w : World) (hA : EntsAt w A ma) (hB : EntsAt w B mb) (la : ma.length ≤ 128) (lb : mb.length ≤ 128) (pa : ∀ e ∈ ma, e.1.length ≤ 1000000) (pb : ∀ e ∈ mb, e.1.length ≤ 1000000) (hn : ∀ e ∈ ma ++ mb, ∀ x ∈ Sp.parts e.1, x.length ≤ 1000000) :
    Calls Tryz.prog 142 #[.slice A ma.length cap, .slice B mb.length cap', .string (strOf d)] w fun e w' => ∃ v, e = .returned v ∧ w'.ownsRow w.heap.size 9 1 v (Sp.belowS d (ma ++ mb)).length (strsC (Sp.belowS d (ma ++ mb))) ∧ Ext w w' := by
  have HA := Lib.hid hA
  have HB := Lib.hid hB
  have HN := Lib.hid hn
  have PL := Lib.hid (show ∀ e ∈ ma ++ mb, e.1.length ≤ 1000000 from fun e he => (List.mem_append.1 he).elim (pa e) (pb e))
  have TK0 := Lib.hid fun k h => Sp.belowS_take d (ma ++ mb) k h
  have BL := Lib.hid fun k h => Sp.belowS_len d (ma ++ mb) k h
  obtain ⟨l, hl⟩ : ∃ l, l = ma ++ mb := ⟨_, rfl⟩
  have ll : l.length = 0 + ma.length + mb.length := by rw [hl, List.length_append]; omega
  rw [← hl] at TK0 BL HN PL ⊢
  have HL := Lib.hid hl
  clear hA hB hn pa pb hl
  go_enter Tryz.func142, Tryz.ntmps142
  go_wp2_with fail
  refine (rpparts_calls d w (by omega)).mono ?_
  rintro e w1 ⟨A1, c1, rfl, _, hb1⟩
  have E1 := Lib.hid hb1
  have dp4 := Sp.parts_len d
  have TK := TK0
  clear TK0
  obtain ⟨dp, hdp⟩ : ∃ dp, dp = (Sp.parts d).length := ⟨_, rfl⟩
  rw [← hdp] at TK dp4 ⊢
  have HDP := Lib.hid hdp
  clear hb1 hdp
  obtain ⟨m1, ha1, ha2, ha3⟩ := HA.out.ext E1.out
  obtain ⟨m2, hb1, hb2, hb3⟩ := HB.out.ext E1.out
  have l1 : m1.length = ma.length := by rw [← ha1, List.length_map]
  have l2 : m2.length = mb.length := by rw [← hb1, List.length_map]
  have CA := Lib.hid ha2
  have CB := Lib.hid hb2
  have VA := Lib.hid ha3
  have VB := Lib.hid hb3
  have MA := Lib.hid ha1
  have MB := Lib.hid hb1
  have L1 := Lib.hid l1
  have L2 := Lib.hid l2
  have tokA : True := trivial
  have tokB : True := trivial
  clear ha1 ha2 ha3 hb1 hb2 hb3 l1 l2
  go_upto_region 4 with (first
    | (have _t := tokA; at_builtin; refine app_cells appEnt rfl _ _ rfl w1.heap.size _ 0 [] rfl (World.ownsRow_made w1 #[] 0 (Nat.le_refl _) (Nat.zero_le _) rfl) A ma.length cap (entsC m1) rfl (by rw [entsC_len, L1.out]) (CA.out.ext (Ext.alloc w1 _)) (entsC_one m1) (by omega) (by simp) ?_; intro v3 w3 hown3 hgr3 hb3; have O3 := Lib.hid hown3; have B3 := Lib.hid (show Ext w1 w3 from Below.trans (Ext.alloc w1 _) hb3); clear tokA _t hown3 hgr3 hb3)
    | (have _t := tokB; at_builtin; refine app_cells appEnt rfl _ _ rfl w1.heap.size _ (0 + ma.length) _ rfl O3.out B mb.length cap' (entsC m2) rfl (by rw [entsC_len, L2.out]) (CB.out.ext B3.out) (entsC_one m2) (by omega) B3.out.size ?_; intro v4 w4 hown4 hgr4 hb4; have O4 := Lib.hid hown4; have B4 := Lib.hid (show Ext w1 w4 from Below.trans B3.out hb4); clear tokB _t hown4 hgr4 hb4))
  rw [← ll] at O4
  obtain ⟨A5, c5, rfl, hc5⟩ := own_read O4.out
  have E5 := Lib.hid (show EntsAt w4 A5 l from ⟨m1 ++ m2, by rw [List.map_append, MA.out, MB.out, HL.out], by rw [entsC_cat2]; exact hc5, fun x hx => by
    rcases List.mem_append.1 hx with h | h
    · exact (VA.out x h).ext B4.out
    · exact (VB.out x h).ext B4.out⟩)
  have l256 : l.length ≤ 256 := by omega
  have B5 := Lib.hid (E1.out.trans B4.out)
  clear ll hc5 O3 O4 CA CB VA VB MA MB L1 L2 B3
  go_wp2
  go_loopw [7, 10] (fun v7 v10 wr => ∃ k : Nat, k ≤ l.length ∧ v10 = .int .i64 k ∧ wr.ownsRow w.heap.size 9 1 v7 (Sp.belowS d (l.take k)).length (strsC (Sp.belowS d (l.take k))) ∧ (∀ x ∈ Sp.belowS d (l.take k), x.length ≤ 1000000) ∧ Ext w4 wr) (fun _ v10 _ => l.length - (intOf v10).toNat)
  case atStart => exact ⟨0, Nat.zero_le _, rfl, World.ownsRow_nil _ _ _ _, (fun x h => by cases h), Ext.refl _⟩
  case round =>
    obtain ⟨k, hk, rfl, hN, hX, hb⟩ := hrel
    have HB := Lib.hid hb
    have HO := Lib.hid hN
    have HX := Lib.hid hX
    by_cases hlt : k < l.length
    · obtain ⟨eb, eo, rfl, he⟩ := E5.out.at (by omega)
      obtain ⟨Av, cv, c0, c1x, c2x⟩ := he k hlt
      have C0 := Lib.hid c0
      have f0 := hb.cell c0
      have ST := Lib.hid (TK.out k hlt)
      have nl := BL.out k (by omega)
      have XL := PL.out _ (List.getElem_mem hlt)
      have XN := Lib.hid (HN.out _ (List.getElem_mem hlt))
      obtain ⟨x, hx⟩ : ∃ x, x = l[k] := ⟨_, rfl⟩
      rw [← hx] at C0 f0 ST XL XN
      obtain ⟨out, hout⟩ : ∃ out, out = Sp.belowS d (l.take k) := ⟨_, rfl⟩
      rw [← hout] at HO HX ST nl
      have kb : (k : Int) < (l.length : Int) := by omega
      clear hN hX hb he c0 c1x c2x hx hout
      go_wp2_with fail
      refine (under_calls x.1 d wr XL (by omega)).mono ?_
      rintro e w6 ⟨rfl, hb6⟩
      have B6 := Lib.hid (HB.out.trans hb6)
      have O6 := Lib.hid (own_ext HO.out hb6)
      obtain ⟨u, hu⟩ : ∃ u, u = Sp.under x.1 d := ⟨_, rfl⟩
      rw [← hu] at ST ⊢
      have HU := Lib.hid hu
      clear hb6 f0 hu
      have f0 := B6.out.cell C0.out
      cases u with
      | false =>
        have ST2 := Lib.hid (show Sp.belowS d (l.take (k + 1)) = out by rw [ST.out]; simp)
        go_wp2
        go_roundw
        case rel => exact ⟨k + 1, by omega, by go_num, by rw [ST2.out]; exact O6.out, by rw [ST2.out]; exact HX.out, B6.out⟩
        case measure => simp [intOf]; omega
      | true =>
        have SP2 := Sp.under_parts HU.out.symm
        go_wp2_with fail
        refine (rpparts_calls x.1 w6 XL).mono ?_
        rintro e w7 ⟨A7, c7, rfl, hN7, hb7⟩
        obtain ⟨P, hP⟩ : ∃ P, P = Sp.parts x.1 := ⟨_, rfl⟩
        have hP4 := Sp.parts_len x.1
        rw [← hP] at hN7 ST XN hP4 SP2 ⊢
        have hlt2 : dp < P.length := by rw [HDP.out]; exact SP2.2.2.1
        obtain ⟨pb, po, rfl, hpn⟩ := hN7.at (by omega)
        have p0 := hpn dp hlt2
        have ST2 := Lib.hid (show Sp.belowS d (l.take (k + 1)) = Sp.put18 (P[dp]'hlt2) false out by
          rw [ST.out]
          simp [List.getD_eq_getElem?_getD, hlt2])
        have SL := XN.out _ (List.getElem_mem hlt2)
        obtain ⟨s, hs⟩ : ∃ s, s = P[dp]'hlt2 := ⟨_, rfl⟩
        rw [← hs] at p0 ST2 SL
        have B7 := Lib.hid (B6.out.trans hb7)
        obtain ⟨C, c, rfl, hc9⟩ := own_read (own_ext O6.out hb7)
        have N7 := Lib.hid (show Nams w7 C out from hc9)
        have b2 : (dp : Int) < (P.length : Int) := by omega
        clear hN7 hb7 hpn hs hP SP2 ST hc9
        go_wp2_with fail
        refine (put18_own out C c s w7 N7.out (by omega) HX.out SL).mono ?_
        rintro e w8 ⟨v8, rfl, hO8, hb8⟩
        have O8 := Lib.hid (own_lower hO8 (show w.heap.size ≤ w7.heap.size from (B5.out.trans B7.out).size))
        have B8 := Lib.hid (B7.out.trans hb8)
        clear hO8 hb8
        go_wp2
        go_roundw
        case rel =>
          refine ⟨k + 1, by omega, by go_num, by rw [ST2.out]; exact O8.out, fun y hy => ?_, B8.out⟩
          rw [ST2.out] at hy
          rcases Sp.put18_mem s out false y hy with rfl | h
          · exact SL
          · exact HX.out y h
        case measure => simp [intOf]; omega
    · obtain rfl : k = l.length := by omega
      rw [List.take_length] at hN
      have O9 := Lib.hid hN
      clear hX HX HO hN
      go_wp2
      go_ret
      exact ⟨_, rfl, O9.out, B5.out.trans HB.out⟩
end Go.Proofs.YtmlfnidckfeebaaGreatDoor
namespace Go.Proofs.YtmlfnidckfeebaaGreatDoor
open Go.RowKit
section
variable {P : Program} {ops : Array Oper} {rest : List Oper} {o : Oper} {a : Act} {Q : Exit → Act → World → Prop} {w : World}
theorem app_where {t e : TypeId} {size bytes : Nat} (hst : AppStat P t e size bytes) (hgd : o.guard = none) (s x : Operand) (ho : o.op = .call { callee := .builtin .append, args := #[s, x], argTypes := #[t, t] })
    (base : Nat) (v : Value) (n : Nat) (xs : List Value) (hs : a.eval s = v) (hown : w.ownsRow base e size v n xs) (gx ox m c : Nat) (news : List Value)
    (hx : a.eval x = .slice (some ⟨gx, ox, none⟩) m c) (hm : 0 < m) (hl : news.length = m * size) (hX : ∀ j u, news[j]? = some u → w.cell? ⟨gx, ox + j, none⟩ = some u) (h1 : ∀ u ∈ news, u.oneCell' = true) (hcap : (n + m) * bytes ≤ 140737488355328) (hbase : base ≤ w.heap.size)
    (h : ∀ v' w', w'.ownsRow base e size v' (n + m) (xs ++ news) → w.grownBy w' v.ownBlock → Below base w w' → (v'.ownBlock = v.ownBlock ∨ ∃ k, w.heap.size ≤ k ∧ v'.ownBlock = some k) → wpList P ops Q rest (a.put o.dst v') w') : wpList P ops Q (o :: rest) a w := by
  obtain ⟨ht, hz0, hb0, i, z, hi, hz, hsz, hby, hzs⟩ := hst
  have hmax : n + m ≤ maxLen := by
    have : n + m ≤ (n + m) * bytes := Nat.le_mul_of_pos_right _ hb0
    unfold maxLen; omega
  have hX' : ∀ j u, news[j]? = some u → w.cell? ((⟨gx, ox, none⟩ : Addr).add j) = some u := fun j u hj => by
    have := hX j u hj
    cases j <;> simpa [Addr.add] using this
  obtain ⟨v', w', hrun, hown', hg, _⟩ := run_append_own w base t o.type e i z size bytes ht hi hz hsz hby hzs hz0 v n xs hown ⟨gx, ox, none⟩ m c news hl hX' h1 hmax hcap hbase
  have hm2 : n + m ≤ 9223372036854775807 := by unfold maxLen at hmax; omega
  have hw : v'.ownBlock = v.ownBlock ∨ ∃ k, w.heap.size ≤ k ∧ v'.ownBlock = some k := by
    rcases hown.2 with ⟨rfl, rfl⟩ | ⟨g, cap, cur, rfl, _, hgg, hnc, _, hcs, _⟩
    · rw [Nat.zero_add] at hcap
      have hr := run_append_nil (P := P) w t o.type e i z ht hi hz ⟨gx, ox, none⟩ m c news (by rw [hsz]; exact hl) hX' hm (by omega) (by rw [hby]; omega)
      rw [hr] at hrun
      cases hrun
      exact .inr ⟨_, Nat.le_refl _, rfl⟩
    · by_cases hroom : n + m ≤ cap
      · have hr := run_append_room (P := P) w t o.type e i ht hi g n cap cur hgg ⟨gx, ox, none⟩ m c news (by rw [hsz]; exact hl) hX' h1 hroom (by rw [hl, hcs, hsz, ← Nat.add_mul]; exact Nat.mul_le_mul_right _ hroom)
        rw [hr] at hrun
        cases hrun
        exact .inl rfl
      · have hr := run_append_grow (P := P) w t o.type e i z ht hi hz ⟨g, 0, none⟩ n cap xs (by rw [hsz]; exact hown.1) (hown.cells (g := g) rfl) ⟨gx, ox, none⟩ m c news (by rw [hsz]; exact hl) hX' (by omega) (by omega) (by rw [hby]; exact growslice_fits (by omega) hcap)
        rw [hr] at hrun
        cases hrun
        exact .inr ⟨_, Nat.le_refl _, rfl⟩
  refine Lib.wpList_append_run w hgd s x t t ho v _ hs hx v' w' hrun (h v' w' hown' hg ((Below.refl _ _).grown hg hbase fun k hk => ?_) hw)
  exact (hown.lt k hk).1
end
end Go.Proofs.YtmlfnidckfeebaaGreatDoor
namespace Go.Proofs.YtmlfnidckfeebaaGreatDoor
open Go.RowKit Go.Shelf
attribute [local go_sem] yUpon strOf_toList
section
variable {P : Program} {ops : Array Oper} {rest : List Oper} {o : Oper} {a : Act} {Q : Exit → Act → World → Prop} {w : World}
theorem app_none {t e : TypeId} {size bytes : Nat} (hst : AppStat P t e size bytes) (hgd : o.guard = none) (s x : Operand) (ho : o.op = .call { callee := .builtin .append, args := #[s, x], argTypes := #[t, t] })
    (base : Nat) (v : Value) (n : Nat) (xs : List Value) (hs : a.eval s = v) (hown : w.ownsRow base e size v n xs) (X : Option Addr) (c : Nat) (hx : a.eval x = .slice X 0 c) (h : wpList P ops Q rest (a.put o.dst v) w) : wpList P ops Q (o :: rest) a w := by
  obtain ⟨ht, _, _, i, z, hi, _, _, _, _⟩ := hst
  refine Lib.wpList_append_run w hgd s x t t ho v _ hs hx v w ?_ h
  rcases hown.2 with ⟨rfl, _⟩ | ⟨g, cap, cur, rfl, _, _, hnc, _⟩
  · cases X with
    | none => simp [Builtin.append_, run_underlying ht, sizeOf, typeInfo, hi, Builtin.lenOf, Builtin.firstCells]
    | some ad => simp [Builtin.append_, run_underlying ht, sizeOf, typeInfo, hi, Builtin.lenOf, Builtin.firstCells, loadCells, loadCellsFrom]
  · cases X with
    | none => simp [Builtin.append_, run_underlying ht, sizeOf, typeInfo, hi, Builtin.lenOf, Builtin.firstCells, hnc, storeCells]
    | some ad => simp [Builtin.append_, run_underlying ht, sizeOf, typeInfo, hi, Builtin.lenOf, Builtin.firstCells, hnc, storeCells, loadCells, loadCellsFrom]
end
namespace Sp
theorem open_take (oa ob : Option T) (l : List DE) (f : Nat) (d : Bs) (L : List Bs) (k : Nat) (h : k < L.length) : ((L.take (k + 1)).flatMap fun n => openS oa ob l f (down d n)) = ((L.take k).flatMap fun n => openS oa ob l f (down d n)) ++ openS oa ob l f (down d L[k]) := by
  rw [List.take_succ_eq_append_getElem h, List.flatMap_append]
  simp
theorem open_part (oa ob : Option T) (l : List DE) (f : Nat) (d : Bs) (L : List Bs) (k : Nat) : ((L.take k).flatMap fun n => openS oa ob l f (down d n)).length ≤ (L.flatMap fun n => openS oa ob l f (down d n)).length := by
  conv => rhs; rw [← List.take_append_drop k L]
  rw [List.flatMap_append, List.length_append]
  omega
end Sp
theorem dstr_one (l : List Sp.Bs) : ∀ u ∈ strsC l, u.oneCell' = true := fun u hu => by
  unfold strsC at hu
  obtain ⟨x, _, rfl⟩ := List.mem_map.1 hu
  rfl
theorem dstr_len (l : List Sp.Bs) : (strsC l).length = l.length := List.length_map ..
theorem dstr_cat (l m : List Sp.Bs) : strsC (l ++ m) = strsC l ++ strsC m := List.map_append ..
theorem dcell_grown {w w' : World} {own : Option Nat} {g i : Nat} {u : Value} (hg : w.grownBy w' own) (hne : own ≠ some g) (c : w.cell? ⟨g, i, none⟩ = some u) : w'.cell? ⟨g, i, none⟩ = some u :=
  (World.cell?_of_block (hg.block g (World.block_lt_of_cell? w _ c) (fun e => hne e.symm))).trans c
set_option maxRecDepth 100000 in
set_option maxHeartbeats 4000000 in
theorem ropen_step (oa ob : Option Sp.T) (ma mb : List Sp.DE) (PA : Sp.Both oa ma) (PB : Sp.Both ob mb) (A B : Option Addr) (cap cap' : Nat) (f : Nat) (hf : f + 1 ≤ 5) (d : Sp.Bs) (hd : Sp.Dir d)
    (IH : ∀ n ∈ Sp.belowS d (ma ++ mb), ∀ w : World, EntsAt w A ma → EntsAt w B mb → KeysAt w 0 → Calls Tryz.prog 75 #[.slice A ma.length cap, .slice B mb.length cap', .string (strOf (Sp.down d n))] w fun e w' => ∃ v, e = .returned v ∧ w'.ownsRow w.heap.size 9 1 v (Sp.openS oa ob (ma ++ mb) f (Sp.down d n)).length (strsC (Sp.openS oa ob (ma ++ mb) f (Sp.down d n))) ∧ Ext w w')
    (w : World) (hA : EntsAt w A ma) (hB : EntsAt w B mb) (K : KeysAt w 0) :
    Calls Tryz.prog 75 #[.slice A ma.length cap, .slice B mb.length cap', .string (strOf d)] w fun e w' => ∃ v, e = .returned v ∧ w'.ownsRow w.heap.size 9 1 v (Sp.openS oa ob (ma ++ mb) (f + 1) d).length (strsC (Sp.openS oa ob (ma ++ mb) (f + 1) d)) ∧ Ext w w' := by
  have dl51 := dir_len hd
  have la := PA.gm.2
  have lb := PB.gm.2
  have hchk : ∀ e ∈ ma ++ mb, Sp.check e.1 = 0 := fun e he => (List.mem_append.1 he).elim (PA.gm.1 e) (PB.gm.1 e)
  have ll : (ma ++ mb).length ≤ 256 := by rw [List.length_append]; omega
  have RD := Lib.hid (rdiffers_calls oa ob ma mb PA PB A B cap cap' d (by omega) w hA hB K)
  have BC := Lib.hid fun W (e : Ext w W) => below18_calls ma mb A B cap cap' d (by omega) W (hA.ext e) (hB.ext e) la lb (fun e he => Nat.le_trans (PA.mlen e he) (by decide)) (fun e he => Nat.le_trans (PB.mlen e he) (by decide)) (fun e he x hx => by
    have h4 := (Sp.check_parts (hchk e he)).2.2.2
    rw [← (Sp.check_parts (hchk e he)).1] at h4
    exact Nat.le_trans (Sp.name_len (List.all_eq_true.1 h4 _ hx)) (by decide))
  have OL := Sp.openS_len oa ob (ma ++ mb) ll (f + 1) d
  have BD := Lib.hid fun n (h : n ∈ Sp.belowS d (ma ++ mb)) => (Sp.below_down hchk hd h).2.2.2
  have bl : (Sp.belowS d (ma ++ mb)).length ≤ 256 := by
    have := Sp.belowS_len d (ma ++ mb) (ma ++ mb).length (Nat.le_refl _)
    rw [List.take_length] at this
    omega
  have p5 : 257 ^ (f + 1) ≤ 257 ^ 5 := Nat.pow_le_pow_right (by decide) hf
  have p5' : (257 : Nat) ^ 5 = 1121154893057 := by decide
  rw [p5'] at p5
  have OL2 : (Sp.openS oa ob (ma ++ mb) (f + 1) d).length ≤ 1121154893057 := Nat.le_trans OL p5
  have OE := Lib.hid (show Sp.openS oa ob (ma ++ mb) (f + 1) d = if Sp.diffS oa ob d = true then d :: (Sp.belowS d (ma ++ mb)).flatMap fun n => Sp.openS oa ob (ma ++ mb) f (Sp.down d n) else [] from rfl)
  have TK := Lib.hid fun k h => Sp.open_take oa ob (ma ++ mb) f d (Sp.belowS d (ma ++ mb)) k h
  have TP := Lib.hid fun k => Sp.open_part oa ob (ma ++ mb) f d (Sp.belowS d (ma ++ mb)) k
  have HIH := Lib.hid IH
  have HA := Lib.hid hA
  have HB := Lib.hid hB
  have KK := Lib.hid K
  obtain ⟨L, hL⟩ : ∃ L, L = Sp.belowS d (ma ++ mb) := ⟨_, rfl⟩
  obtain ⟨g, hg⟩ : ∃ g : Sp.Bs → List Sp.Bs, g = fun n => Sp.openS oa ob (ma ++ mb) f (Sp.down d n) := ⟨_, rfl⟩
  obtain ⟨R, hR⟩ : ∃ R, R = Sp.openS oa ob (ma ++ mb) (f + 1) d := ⟨_, rfl⟩
  obtain ⟨b, hb⟩ : ∃ b, b = Sp.diffS oa ob d := ⟨_, rfl⟩
  rw [← hb] at RD OE
  rw [← hR] at OE OL2 ⊢
  rw [← hL] at BC BD bl OE TK TP HIH
  rw [← hg] at OE TK TP
  have GE := Lib.hid fun n => show Sp.openS oa ob (ma ++ mb) f (Sp.down d n) = g n by rw [hg]
  have HIH2 := Lib.hid (show ∀ n ∈ L, ∀ w : World, EntsAt w A ma → EntsAt w B mb → KeysAt w 0 → Calls Tryz.prog 75 #[.slice A ma.length cap, .slice B mb.length cap', .string (strOf (Sp.down d n))] w fun e w' => ∃ v, e = .returned v ∧ w'.ownsRow w.heap.size 9 1 v (g n).length (strsC (g n)) ∧ Ext w w' from fun n hn => by
    have := HIH.out n hn
    rw [GE.out n] at this
    exact this)
  have TK2 := Lib.hid (show ∀ (k : Nat) (h : k < L.length), (L.take (k + 1)).flatMap g = (L.take k).flatMap g ++ g L[k] from fun k h => by
    rw [TK.out k h, ← GE.out])
  clear hchk ll OL p5 p5' PA PB IH hA hB K hd HIH TK GE hL hg hR hb
  go_enter Tryz.func75, Tryz.ntmps75
  go_wp2_with fail
  refine RD.out.mono ?_
  rintro e w1 ⟨rfl, hb1⟩
  have E1 := Lib.hid hb1
  clear hb1 RD
  cases b with
  | false =>
    have OE2 := OE.out
    rw [if_neg (by decide)] at OE2
    clear OE
    subst OE2
    go_wp2
    go_ret
    exact ⟨_, rfl, World.ownsRow_nil _ _ _ _, E1.out⟩
  | true =>
    have OE1 := OE.out
    rw [if_pos rfl] at OE1
    have OE2 := Lib.hid OE1
    have hRl : R.length = 1 + (L.flatMap g).length := by rw [OE1, List.length_cons]; omega
    clear OE OE1
    have tokA : True := trivial
    go_wp2_with (have _t := tokA; at_builtin; refine app_new appStr rfl _ _ rfl w.heap.size _ 0 [] rfl (World.ownsRow_nil _ _ _ _) #[.string (strOf d)] 9 1 rfl rfl (by intro u hu; simp at hu; subst hu; rfl) (by decide) (by decide) E1.out.size ?_; intro g3 cap3 w3 hown3 hgr3 hb3 hbg3; have O3 := Lib.hid (show w3.ownsRow w.heap.size 9 1 (.slice (some ⟨g3, 0, none⟩) (0 + 1) cap3) 1 (strsC [d]) from hown3); have E3 := Lib.hid (show Ext w w3 from Below.trans E1.out hb3); clear tokA _t hown3 hgr3 hb3 hbg3)
    refine (BC.out w3 E3.out).mono ?_
    rintro e w4 ⟨v4, rfl, hO4, hb4⟩
    obtain ⟨A4, c4, rfl, hc4⟩ := own_read hO4
    have S3 := Lib.hid (O3.out.lt g3 rfl).2
    have N4 := Lib.hid hO4
    have NN := Lib.hid (show Nams w4 A4 L from hc4)
    have O4 := Lib.hid (own_ext O3.out hb4)
    have E4 := Lib.hid (E3.out.trans hb4)
    clear hO4 hc4 hb4 O3
    go_wp2
    go_loopw [7, 9] (fun v7 v9 wr => ∃ k : Nat, k ≤ L.length ∧ v9 = .int .i64 k ∧ wr.ownsRow w.heap.size 9 1 v7 (1 + ((L.take k).flatMap g).length) (strsC (d :: (L.take k).flatMap g)) ∧ (∀ g o, A4 = some ⟨g, o, none⟩ → v7.ownBlock ≠ some g ∧ g < wr.heap.size) ∧ Nams wr A4 L ∧ Ext w wr) (fun _ v9 _ => L.length - (intOf v9).toNat)
    case atStart =>
      refine ⟨0, Nat.zero_le _, rfl, O4.out, fun g o hg => ?_, NN.out, E4.out⟩
      subst hg
      have h1 := N4.out.lt g rfl
      refine ⟨fun h => ?_, h1.2⟩
      have h2 : g3 = g := Option.some.inj h
      have := S3.out
      omega
    case round =>
      obtain ⟨k, hk, rfl, hO, hne, hN, hb⟩ := hrel
      have HX := Lib.hid hb
      have HO := Lib.hid hO
      have HN := Lib.hid hN
      have HNE := Lib.hid hne
      clear hO hne hN hb
      by_cases hlt : k < L.length
      · obtain ⟨nb, no, rfl, hnm⟩ := HN.out.at (by omega)
        have n0 := hnm k hlt
        have IK := Lib.hid (HIH2.out L[k] (List.getElem_mem hlt))
        have TKK := Lib.hid (TK2.out k hlt)
        have tp2 := TP.out (k + 1)
        rw [TKK.out, List.length_append] at tp2
        have xl := BD.out _ (List.getElem_mem hlt)
        obtain ⟨x, hxk⟩ : ∃ x, x = L[k] := ⟨_, rfl⟩
        rw [← hxk] at n0 IK xl TKK tp2
        have b1 : (k : Int) < (L.length : Int) := by omega
        have DC := Lib.hid (down_calls d x wr (by omega) (by omega))
        obtain ⟨q, hq⟩ : ∃ q, q = (L.take k).flatMap g := ⟨_, rfl⟩
        rw [← hq] at HO TKK tp2
        obtain ⟨y, hy⟩ : ∃ y, y = g x := ⟨_, rfl⟩
        rw [← hy] at IK TKK tp2
        obtain ⟨dn, hdn⟩ : ∃ dn, dn = Sp.down d x := ⟨_, rfl⟩
        rw [← hdn] at DC IK
        clear hnm hxk hq hy hdn
        go_wp2_with fail
        refine DC.out.mono ?_
        rintro e w5 ⟨rfl, rfl⟩
        clear n0
        go_wp2_with fail
        refine (IK.out _ (HA.out.ext HX.out) (HB.out.ext HX.out) (KK.out.ext HX.out)).mono ?_
        rintro e w6 ⟨v6, rfl, hO6, hb6⟩
        obtain ⟨A6, c6, rfl, hc6⟩ := own_read hO6
        have E6 := Lib.hid hb6
        have B6 := Lib.hid (HX.out.trans hb6)
        have N6 := Lib.hid (HN.out.ext hb6)
        have nb6 := Lib.hid (show nb < wr.heap.size from (HNE.out nb no rfl).2)
        have ne6 := Lib.hid (show u7.ownBlock ≠ some nb from (HNE.out nb no rfl).1)
        by_cases hy0 : y = []
        · have TK3 := Lib.hid (show (L.take (k + 1)).flatMap g = q by rw [TKK.out, hy0, List.append_nil])
          rw [hy0] at hO6 ⊢
          have O7 := Lib.hid (own_ext HO.out E6.out)
          have tokA : True := trivial
          clear hO6 hb6 hc6 hy0 TKK
          go_wp2_with (have _t := tokA; at_builtin; refine app_none appStr rfl _ _ rfl w.heap.size u7 (1 + q.length) _ rfl O7.out A6 c6 rfl ?_; clear tokA _t)
          go_roundw
          case rel =>
            refine ⟨k + 1, by omega, by go_num, by rw [TK3.out]; exact O7.out, fun g o hg => ?_, N6.out, B6.out⟩
            cases hg
            have h6 := E6.out.size
            have h8 := nb6.out
            exact ⟨ne6.out, by omega⟩
          case measure => simp [intOf]; omega
        · obtain ⟨gx, ox, rfl, hcx⟩ := hc6 (by intro e; have := dstr_len y; rw [e] at this; simp at this; exact hy0 (List.eq_nil_of_length_eq_zero this.symm))
          have XC := Lib.hid hcx
          have X0 : 0 < y.length := by cases y with | nil => exact absurd rfl hy0 | cons _ _ => simp
          have tokA : True := trivial
          clear hO6 hb6 hc6 hcx hy0
          go_wp2_with (have _t := tokA; at_builtin; refine app_where appStr rfl _ _ rfl w.heap.size u7 (1 + q.length) _ rfl (own_ext HO.out E6.out) gx ox y.length c6 (strsC y) rfl X0 (by rw [dstr_len, Nat.mul_one]) XC.out (dstr_one y) (by omega) B6.out.size ?_; intro v7 w7 hown7 hgr7 hb7 hwh7; have O7 := Lib.hid hown7; have G7 := Lib.hid hgr7; have B7 := Lib.hid hb7; have W7 := Lib.hid hwh7; clear tokA _t hown7 hgr7 hb7 hwh7)
          have N7 := Lib.hid (show Nams w7 (some ⟨nb, no, none⟩) L from fun hn => by
            obtain ⟨g, o, hA, hc⟩ := N6.out hn
            cases hA
            exact ⟨nb, no, rfl, fun i u hu => dcell_grown G7.out ne6.out (hc i u hu)⟩)
          go_roundw
          case rel =>
            refine ⟨k + 1, by omega, by go_num, ?_, fun g o hg => ?_, N7.out, Below.trans B6.out B7.out⟩
            · rw [TKK.out, List.length_append, ← List.cons_append, dstr_cat, ← Nat.add_assoc]
              exact O7.out
            · cases hg
              have h6 := E6.out.size
              have h7 := B7.out.size
              have h8 := nb6.out
              refine ⟨fun h => ?_, by omega⟩
              rcases W7.out with h9 | ⟨k9, h9, h10⟩
              · exact ne6.out (by rw [← h9]; exact h)
              · rw [h] at h10
                have : nb = k9 := Option.some.inj h10
                omega
          case measure => simp [intOf]; omega
      · obtain rfl : k = L.length := by omega
        rw [List.take_length, ← OE2.out] at HO
        rw [← hRl] at HO
        go_wp2
        go_ret
        exact ⟨_, rfl, HO.out, HX.out⟩
theorem ropen_calls (oa ob : Option Sp.T) (ma mb : List Sp.DE) (PA : Sp.Both oa ma) (PB : Sp.Both ob mb) (A B : Option Addr) (cap cap' : Nat) : ∀ (f : Nat) (d : Sp.Bs) (w : World), f ≤ 5 → 5 ≤ (Sp.parts d).length + f → Sp.Dir d → EntsAt w A ma → EntsAt w B mb → KeysAt w 0 →
    Calls Tryz.prog 75 #[.slice A ma.length cap, .slice B mb.length cap', .string (strOf d)] w fun e w' => ∃ v, e = .returned v ∧ w'.ownsRow w.heap.size 9 1 v (Sp.openS oa ob (ma ++ mb) f d).length (strsC (Sp.openS oa ob (ma ++ mb) f d)) ∧ Ext w w'
  | 0, d, w, _, hf, _, _, _, _ => by have := Sp.parts_len d; omega
  | f + 1, d, w, h5, hf, hd, hA, hB, K =>
    ropen_step oa ob ma mb PA PB A B cap cap' f h5 d hd (fun n hn w2 hA2 hB2 K2 => by
      have hchk : ∀ e ∈ ma ++ mb, Sp.check e.1 = 0 := fun e he => (List.mem_append.1 he).elim (PA.gm.1 e) (PB.gm.1 e)
      obtain ⟨k1, k2, _, _⟩ := Sp.below_down hchk hd hn
      refine ropen_calls oa ob ma mb PA PB A B cap cap' f (Sp.down d n) w2 (by omega) ?_ k1 hA2 hB2 K2
      rw [k2, List.length_append]
      show 5 ≤ (Sp.parts d).length + 1 + f
      omega) w hA hB K
end Go.Proofs.YtmlfnidckfeebaaGreatDoor
