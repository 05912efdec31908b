/- Walks: what stands at a directory, as a node. Walks: what stands by a name. Walks: what stands at a directory is made: its cells, plain. -/
import Derived.Test.YtmlfnidckfeebaaGreatDoorP013
namespace Go.Proofs.YtmlfnidckfeebaaGreatDoor
open Go.RowKit Go.Shelf
attribute [local go_sem] yUpon
theorem own_lowT' {w : World} {b b' n : Nat} {e : TypeId} {size : Nat} {v : Value} {xs : List Value} (h : w.ownsRow b e size v n xs) (hb : b' ≤ b) : w.ownsRow b' e size v n xs := by
  refine ⟨h.1, ?_⟩
  rcases h.2 with h2 | ⟨g, cap, cur, hv, hg, rest⟩
  · exact .inl h2
  · exact .inr ⟨g, cap, cur, hv, Nat.le_trans hb hg, rest⟩
set_option maxRecDepth 100000 in
set_option maxHeartbeats 4000000 in
theorem inodeO_calls (t : Sp.T) (g : Nat) (A B C : Option Addr) (c c' c'' : Nat) (gs : List Nat) (arr : Array Value) (w : World) (h : PreAt w g t A B C c c' c'' gs arr) (hl : t.leaf.length ≤ 1000000) (hp : ∀ v ∈ t.leaf, v.past.length ≤ 1000000)
    (hk : t.kids.length ≤ 1000000) (hn : ∀ x ∈ t.kids, x.1.length ≤ 1000000) :
    Calls Tryz.prog 220 #[.pointer (some ⟨g, 0, none⟩)] w fun e w' => ∃ A2 c2 B2 c3, e = .returned (nodeV A2 t.leaf.length c2 B2 t.kids.length c3) ∧ Vers w' A2 t.leaf ∧ Kids w' B2 (Sp.nodeT t).2 ∧ Ext w w' ∧ w'.ownsRow w.heap.size 268 33 (.slice B2 t.kids.length c3) t.kids.length (kidsC (Sp.nodeT t).2) := by
  have CP := Lib.hid fun W (e : Ext w W) => copied_calls t.leaf A c W (h.V.ext e) hl hp
  have HH := Lib.hid h
  have HP := Lib.hid hp
  have HN := Lib.hid hn
  clear h hp hn
  have tok1 : True := trivial
  have tok2 : True := trivial
  have tok3 : True := trivial
  go_enter Tryz.func220, Tryz.ntmps220
  go_wp2_with (first
    | (have _t := tok1; ((with_reducible refine at_alloc (t := 116) rfl ?_); refine box_new rfl (cs := #[.slice none 0 0, .slice none 0 0]) (t := 116) (by first | (go_simp; done) | (go_simp; rfl)) ?_; intro g2 w2 hg2 hx2 hb2; have H2 := Lib.hid hx2; have B2 := Lib.hid (show Ext w w2 from hb2); have GG2 := Lib.hid hg2; have f0 := (((HH.out.ext hb2).blk.cell 0).trans HH.out.c0); clear tok1 _t hx2 hb2 hg2)))
  refine (CP.out w2 B2.out).mono ?_
  rintro e w3 ⟨v3, rfl, hO3, hb3⟩
  obtain ⟨A2, c2, rfl, hV2⟩ := hO3.read
  have V3 := Lib.hid hV2
  have B3 := Lib.hid (B2.out.trans hb3)
  have B23 := Lib.hid (show Ext w2 w3 from hb3)
  clear hV2 hb3 hO3 f0 CP
  go_wp2_with (first
    | (have _t := tok2; ((with_reducible refine at_alloc (t := 116) rfl ?_); refine box_new rfl (cs := #[.slice none 0 0, .slice none 0 0]) (t := 116) (by first | (go_simp; done) | (go_simp; rfl)) ?_; intro g4 w4 hg4 hx4 hb4; have H4 := Lib.hid hx4; have B4 := Lib.hid (show Ext w3 w4 from hb4); have GG4 := Lib.hid hg4; have k0 := (hx4.cell 0).trans rfl; have k1 := (hx4.cell 1).trans rfl; have k2 := hx4.frozen 0; have k3 := hx4.frozen 1; have f2 := (((HH.out.ext (B3.out.trans hb4)).blk.cell 2).trans HH.out.c2); clear tok2 _t hx4 hb4 hg4)))
  obtain ⟨w5, hw5⟩ : ∃ w5, w5 = (w4.setCell ⟨g4, 0, none⟩ (.slice A2 t.leaf.length c2)).setCell ⟨g4, 1, none⟩ (.slice none 0 0) := ⟨_, rfl⟩
  have X5 := Lib.hid (show isBlk w5 g4 116 #[.slice A2 t.leaf.length c2, .slice none 0 0] by rw [hw5]; exact (H4.out.put 0 _ rfl).put 1 _ rfl)
  have G4 := Lib.hid (show g4 < w5.heap.size by exact X5.out.lt)
  have B5 := Lib.hid (show Ext w3 w5 by rw [hw5]; exact (B4.out.setCell GG4.out _).setCell GG4.out _)
  rw [← hw5]
  clear hw5 k0 k1 k2 k3 f2
  go_loopw [17] (fun v17 wr => ∃ (k : Nat) (v : Value), k ≤ t.kids.length ∧ v17 = .int .i64 k ∧ isBlk wr g4 116 #[.slice A2 t.leaf.length c2, v] ∧ wr.ownsRow (g4 + 1) 268 33 v k (kidsC ((Sp.nodeT t).2.take k)) ∧ Ext w3 wr ∧ g4 < wr.heap.size) (fun v17 _ => t.kids.length - (intOf v17).toNat)
  case atStart => exact ⟨0, _, Nat.zero_le _, rfl, X5.out, World.ownsRow_nil _ _ _ _, B5.out, G4.out⟩
  case round =>
    obtain ⟨k, v, hk2, rfl, hx, ho, hb, hgw⟩ := hrel
    have HX := Lib.hid hx
    have HO := Lib.hid ho
    have HB := Lib.hid hb
    have GW := Lib.hid hgw
    clear hx ho hb hgw
    by_cases hlt : k < t.kids.length
    · obtain ⟨cb, co, nb, no, rfl, rfl, pk, nk⟩ := HH.out.at k hlt
      have sk := (HH.out.K k hlt).cells.2.1
      obtain ⟨x, hxk⟩ : ∃ x, x = t.kids[k] := ⟨_, rfl⟩
      rw [← hxk] at sk
      rw [← hxk] at nk
      obtain ⟨gk, hgk⟩ : ∃ gk, gk = gs.getD k 0 := ⟨_, rfl⟩
      rw [← hgk] at pk sk
      have XK := Lib.hid hxk
      have E := Lib.hid (B3.out.trans HB.out)
      have p1 := E.out.cell pk
      have n1 := E.out.cell nk
      have f1 := (((HH.out.ext E.out).blk.cell 1).trans HH.out.c1)
      have PK := Lib.hid pk
      have NK := Lib.hid nk
      have b1 : (k : Int) < (t.kids.length : Int) := by omega
      have F1 := Lib.hid f1
      have N1 := Lib.hid n1
      obtain ⟨ds, hds⟩ : ∃ ds, ds = (Sp.nsum (Sp.nodeT x.2)).map byteV := ⟨_, rfl⟩
      rw [← hds] at sk
      have SKR := Lib.hid (show wr.drew.rangeAt gk 4 ds from fun j v hj => E.out.cell (sk j v hj))
      have DL := Lib.hid (show ds.length = 32 by rw [hds, List.length_map, Sp.nsum_len])
      obtain ⟨ka, hka⟩ : ∃ ka, ka = (kidL (x.1, Sp.nsum (Sp.nodeT x.2))).toArray := ⟨_, rfl⟩
      have BK := Lib.hid (show (Tryz.prog).built 268 [(0, .string (strOf x.1)), (1, .agg ds.toArray)] = some ka by rw [hka, hds]; exact built_kid (x.1, Sp.nsum (Sp.nodeT x.2)) (Sp.nsum_len _))
      have KA := Lib.hid hka
      have KS := Lib.hid (show ka.size = 1 * 33 by rw [hka, List.size_toArray, kidL_len _ (Sp.nsum_len _)])
      have KO := Lib.hid (show ∀ u ∈ ka.toList, u.oneCell' = true by
        rw [hka]
        intro u hu
        have : u ∈ kidsC [(x.1, Sp.nsum (Sp.nodeT x.2))] := by simpa [kidsC] using hu
        exact kids_one _ u this)
      clear hds hka
      clear pk nk sk hxk hgk
      go_wp2_with fail
      refine wp_region_det_preT (fun W => W = wr.drew) (fun W => Ext wr W) 2 14 (fun W e => by rw [e]; exact (Ext.refl _).drew) (by kernel_rfl) (by kernel_rfl) rfl ?_
      simp only [List.take_succ_cons, List.take_zero, List.drop_succ_cons, List.drop_zero]
      repeat (first
        | (refine floatT_step (fun K hK => ?_)
           apply Exists.intro
           refine ⟨Or.inl ⟨rfl, fun W hS => ?_⟩, ?_⟩
           · have hz : Ext wr W := hS; have f0 := ((HX.out.below hz).cell 1).trans rfl
             go_simp
             first | done | exact rfl
           go_simp
           refine hK _ ?_
           clear hK K))
      refine floatT_nil ?_
      repeat (first
        | (refine det_step (fun K hK => ?_); (first | (refine det_load_mid rfl 36 (.tmp 33) rfl gk 4 rfl ds _ (fun W hS => by rw [show W = wr.drew from hS]; exact SKR.out) Tryz.underlying36 rfl (by rw [DL.out]; kernel_rfl) ?_) | (refine det_build rfl 268 #[(0, .tmp 30), (1, .tmp 34)] rfl ka (by first | exact BK.out | (go_simp; exact BK.out)) ?_)); go_simp; refine hK _ ?_; clear hK K)
        | (refine det_step (fun K hK => ?_)
           apply Exists.intro
           refine ⟨Or.inl ⟨rfl, fun W hS => ?_⟩, ?_⟩
           · have hz : W = wr.drew := hS; subst hz; have f1 := (show wr.drew.cell? _ = _ from F1.out); have n1 := (show wr.drew.cell? _ = _ from N1.out)
             go_simp
             first
             | exact rfl
             | exact ⟨rfl, hS⟩
             | (fail)
           go_simp
           refine hK _ ?_
           clear hK K)
        | (refine det_step (fun K hK => ?_); refine det_no' rfl ?_; go_simp; refine hK _ ?_; clear hK K))
      refine det_nil ?_
      rintro W rfl
      have tokS : True := trivial
      have tokA : True := trivial
      go_wp2_with (have _t := tokS; (with_reducible refine at_bslice rfl ?_); refine bslice_one rfl 114 268 _ rfl appKid (by decide) ka rfl KS.out ?_; clear tokS _t)
      refine ⟨rfl, (Below.refl _ _).drew.alloc (Nat.le_refl _) _, ?_⟩
      go_wp2_with (have _t := tokA; at_builtin; refine app_new appKid rfl _ _ rfl (g4 + 1) v k _ rfl (owned_drew HO.out) ka 268 1 rfl KS.out KO.out (by decide) (by omega) GW.out ?_; intro g6 cap6 w6 hown6 hgr6 hb6 hbg6; have HO6 := Lib.hid hown6; have HB6 := Lib.hid hb6; have GB6 := Lib.hid hbg6; have Z6 := Lib.hid (show isBlk w6 g4 116 #[.slice A2 t.leaf.length c2, v] from (hb6.block g4 (Nat.lt_succ_self _)).trans HX.out); have k0 := (Z6.out.cell 1).trans rfl; have k1 := Z6.out.frozen 1; clear hown6 hgr6 hb6 hbg6 tokA _t)
      refine ⟨rfl, ?_⟩
      go_wp2
      have hkl : k < (Sp.nodeT t).2.length := by rw [nodeT_kids, List.length_map]; exact hlt
      have e1 : kidsC ((Sp.nodeT t).2.take (k + 1)) = kidsC ((Sp.nodeT t).2.take k) ++ ka.toList := by
        rw [List.take_succ_eq_append_getElem hkl, kidsC_snoc, KA.out]
        congr 1
        simp only [nodeT_kids, List.getElem_map, ← XK.out]
      refine ⟨⟨k + 1, .slice (some ⟨g6, 0, none⟩) (k + 1) cap6, by omega, by go_num, Z6.out.put 1 _ rfl, ?_, ?_, ?_⟩, by simp [intOf]; omega⟩
      · rw [e1]
        exact own_far HO6.out (fun e => by have e2 : g6 = g4 := Option.some.inj e
                                           have := GB6.out; omega) _
      · exact (Below.trans HB.out (Below.trans (Below.refl _ _).drew (below_lower HB6.out (show w3.heap.size ≤ g4 + 1 from Nat.le_succ_of_le GG4.out)))).setCell GG4.out _
      · have := HB6.out.size
        have := GW.out
        simp at *
        omega
    · obtain rfl : k = t.kids.length := by omega
      have OW := HO.out
      obtain ⟨Bk, c3, rfl, hK⟩ := own_read HO.out
      have hne : g2 ≠ g4 := by have := H2.out.lt; have := B23.out.size; have := GG4.out; omega
      have HZ := Lib.hid (show isBlk wr g2 116 #[.slice none 0 0, .slice none 0 0] from H2.out.below (B23.out.trans HB.out))
      have k0 := (HX.out.cell 0).trans rfl
      have k1 := (HX.out.cell 1).trans rfl
      have k2 := (HZ.out.cell 0).trans rfl
      have k3 := (HZ.out.cell 1).trans rfl
      have k4 := HZ.out.frozen 0
      have k5 := HZ.out.frozen 1
      go_wp2
      have hz := (HZ.out.put 0 (.slice A2 t.leaf.length c2) rfl).put 1 (.slice Bk t.kids.length c3) rfl
      refine bodyPost_ret (results_cell_row rfl _ _ g2 116 #[.slice A2 t.leaf.length c2, .slice Bk t.kids.length c3] (0, 0) _ rfl hz Tryz.underlying116 rfl (by kernel_rfl)) rfl ?_
      have e1 := (Only.set g2 0 (.slice A2 t.leaf.length c2) wr).trans (Only.set g2 1 (.slice Bk t.kids.length c3) _)
      have hs : ∀ z ∈ (#[.slice none 0 0, .slice none 0 0] : Array Value).toList, isSl z = true := by decide
      have hlen : (Sp.nodeT t).2.length = t.kids.length := by rw [nodeT_kids, List.length_map]
      rw [List.take_of_length_le (by omega)] at hK OW
      have KK : Kids wr Bk (Sp.nodeT t).2 := ⟨hK, fun x hx => by
        rw [nodeT_kids] at hx
        obtain ⟨y, hy, rfl⟩ := List.mem_map.1 hx
        exact ⟨Sp.nsum_len _, HN.out y hy⟩⟩
      have BW := B3.out.trans HB.out
      refine ⟨A2, c2, Bk, c3, rfl, (V3.out.ext HB.out).apart e1 HZ.out hs, KK.apart e1 HZ.out hs, BW.from' (e1.below GG2.out BW.size), ?_⟩
      have hlow : w.heap.size ≤ g4 + 1 := by have := B3.out.size; have := GG4.out; omega
      have hfar : (Value.slice Bk t.kids.length c3).ownBlock ≠ some g2 := fun e => by
        have h1 := (OW.lt g2 e).1
        have h2 := H2.out.lt
        have h3 := B23.out.size
        have h4 := GG4.out
        omega
      exact own_lowT' (own_far (own_far OW hfar _) hfar _) hlow
theorem inode_calls (t : Sp.T) (g : Nat) (A B C : Option Addr) (c c' c'' : Nat) (gs : List Nat) (arr : Array Value) (w : World) (h : PreAt w g t A B C c c' c'' gs arr) (hl : t.leaf.length ≤ 1000000) (hp : ∀ v ∈ t.leaf, v.past.length ≤ 1000000)
    (hk : t.kids.length ≤ 1000000) (hn : ∀ x ∈ t.kids, x.1.length ≤ 1000000) :
    Calls Tryz.prog 220 #[.pointer (some ⟨g, 0, none⟩)] w fun e w' => ∃ A2 c2 B2 c3, e = .returned (nodeV A2 t.leaf.length c2 B2 t.kids.length c3) ∧ Vers w' A2 t.leaf ∧ Kids w' B2 (Sp.nodeT t).2 ∧ Ext w w' :=
  (inodeO_calls t g A B C c c' c'' gs arr w h hl hp hk hn).mono fun _ _ ⟨A2, c2, B2, c3, h1, h2, h3, h4, _⟩ => ⟨A2, c2, B2, c3, h1, h2, h3, h4⟩
end Go.Proofs.YtmlfnidckfeebaaGreatDoor
namespace Go.Proofs.YtmlfnidckfeebaaGreatDoor
open Go.RowKit Go.Shelf
attribute [local go_sem] yUpon
/-- A pointer to what stands somewhere, or to nothing. -/
def OptAt (w : World) (v : Value) (o : Option Sp.T) : Prop := (o = none ∧ v = .pointer none) ∨ ∃ g t, o = some t ∧ v = .pointer (some ⟨g, 0, none⟩) ∧ InnerAt w g t
theorem OptAt.ext {w w' : World} (e : Ext w w') {v : Value} {o : Option Sp.T} (h : OptAt w v o) : OptAt w' v o := by
  rcases h with h | ⟨g, t, h1, h2, h3⟩
  · exact .inl h
  · exact .inr ⟨g, t, h1, h2, h3.ext e⟩
set_option maxRecDepth 100000 in
set_option maxHeartbeats 4000000 in
theorem ikid_pre (t : Sp.T) (g : Nat) (n : Sp.Bs) (w : World) (A B C : Option Addr) (c c' c'' : Nat) (gs : List Nat) (arr : Array Value) (hp : PreAt w g t A B C c c' c'' gs arr) (hr : Sp.Rise t.kids) (hk : t.kids.length ≤ 1000000) :
    Calls Tryz.prog 156 #[.pointer (some ⟨g, 0, none⟩), .string (strOf n)] w fun e w' => ∃ v, e = .returned v ∧ OptAt w' v (Sp.kid t.kids n) ∧ Ext w w' := by
  obtain ⟨p, hpp⟩ : ∃ p, p = Sp.pos (t.kids.map (·.1)) n := ⟨_, rfl⟩
  have hple : p ≤ (t.kids.map (·.1)).length := by rw [hpp]; exact Sp.pos_le _ _
  have hpl := Sp.pos_less (t.kids.map (fun x : Sp.Bs × Sp.T => x.1)) n hr
  have KP := Lib.hid (Sp.kid_pos t.kids n hr)
  rw [← hpp] at KP hpl
  have hlen : (t.kids.map (·.1)).length = t.kids.length := List.length_map ..
  have BC := Lib.hid (bin_calls (t.kids.map (·.1)) n p B c' w hp.N (by omega) hple hpl)
  rw [hlen] at BC hple
  obtain ⟨bb, hbb⟩ : ∃ bb : Bool, bb = decide ((t.kids.map (·.1))[p]? = some n) := ⟨_, rfl⟩
  rw [← hbb] at BC
  have HBB := Lib.hid hbb
  have HP := Lib.hid hp
  have f1 := (hp.blk.cell 1).trans hp.c1
  clear hpl hp hpp hr hbb
  go_enter Tryz.func156, Tryz.ntmps156
  go_wp2_with fail
  refine BC.out.mono ?_
  rintro e w1 ⟨rfl, hb⟩
  have HB := Lib.hid hb
  clear hb f1 BC
  by_cases hn : (t.kids.map (·.1))[p]? = some n
  · have hlt : p < t.kids.length := by have := (List.getElem?_eq_some_iff.1 hn).1; simpa using this
    obtain rfl : bb = true := by rw [HBB.out]; exact decide_eq_true hn
    have K2 := Lib.hid (show Sp.kid t.kids n = some (t.kids[p]).2 by rw [KP.out, if_pos hn, List.getElem?_eq_getElem hlt]; rfl)
    obtain ⟨cb, co, nb, no, rfl, rfl, pk, nk⟩ := HP.out.at p hlt
    have IK := Lib.hid (HP.out.K p hlt)
    obtain ⟨gk, hgk⟩ : ∃ gk, gk = gs.getD p 0 := ⟨_, rfl⟩
    rw [← hgk] at pk IK
    have f2 := ((HP.out.ext HB.out).blk.cell 2).trans HP.out.c2
    have p1 := HB.out.cell pk
    have b1 : (p : Int) < (t.kids.length : Int) := by omega
    clear hn nk pk hgk
    go_wp2
    go_ret
    exact ⟨_, rfl, .inr ⟨gk, _, K2.out, rfl, IK.out.ext HB.out⟩, HB.out⟩
  · obtain rfl : bb = false := by rw [HBB.out]; exact decide_eq_false hn
    have K2 := Lib.hid (show Sp.kid t.kids n = none by rw [KP.out, if_neg hn])
    clear hn
    go_wp2
    go_ret
    exact ⟨_, rfl, .inl ⟨K2.out, rfl⟩, HB.out⟩
theorem ikid_calls (t : Sp.T) (g : Nat) (n : Sp.Bs) (w : World) (h : InnerAt w g t) (hr : Sp.Rise t.kids) (hk : t.kids.length ≤ 1000000) :
    Calls Tryz.prog 156 #[.pointer (some ⟨g, 0, none⟩), .string (strOf n)] w fun e w' => ∃ v, e = .returned v ∧ OptAt w' v (Sp.kid t.kids n) ∧ Ext w w' := by
  obtain ⟨A, B, C, c, c', c'', gs, hp⟩ := h.pre
  exact ikid_pre t g n w A B C c c' c'' gs _ hp hr hk
end Go.Proofs.YtmlfnidckfeebaaGreatDoor
namespace Go.Proofs.YtmlfnidckfeebaaGreatDoor
open Go.RowKit Go.Shelf
theorem putsA_mid (X d e Y : List Value) (n : Nat) (hn : n = X.length) (h : e.length = d.length) : putsA (X ++ d ++ Y).toArray n e = (X ++ e ++ Y).toArray := by
  subst hn
  apply Array.ext_getElem?
  intro m
  rw [putsA_get _ _ _ _ (by simp; omega)]
  simp only [List.getElem?_toArray, List.getElem?_append, List.length_append]
  by_cases h1 : m < X.length
  · have a1 : m < X.length + d.length := by omega
    have a2 : m < X.length + e.length := by omega
    have a3 : ¬ (X.length ≤ m ∧ m < X.length + e.length) := by omega
    rw [if_neg a3]
    simp only [a1, a2, h1, if_true]
  · by_cases h2 : m < X.length + e.length
    · have a1 : m < X.length + d.length := by omega
      have a3 : X.length ≤ m ∧ m < X.length + e.length := by omega
      rw [if_pos a3]
      simp only [h1, h2, if_true, if_false]
    · have a1 : ¬ m < X.length + d.length := by omega
      have a3 : ¬ (X.length ≤ m ∧ m < X.length + e.length) := by omega
      rw [if_neg a3]
      simp only [a1, h, if_false]
/-- The cells of what stands at a directory, or will stand there. -/
def pcC (A : Option Addr) (la c : Nat) (B : Option Addr) (lk c' : Nat) (C : Option Addr) (c'' : Nat) (n : Value) (d1 d2 : List Value) (b : Value) : Array Value :=
  (([.slice A la c, .slice B lk c', .slice C lk c'', n] : List Value) ++ d1 ++ d2 ++ [b]).toArray
section
variable {A B C : Option Addr} {la c lk c' c'' : Nat} {n n' : Value} {d1 d2 e1 e2 : List Value} {b b' : Value}
theorem pc_size (h1 : d1.length = 32) (h2 : d2.length = 32) : (pcC A la c B lk c' C c'' n d1 d2 b).size = 69 := by simp [pcC, h1, h2]
theorem pc_get3 : (pcC A la c B lk c' C c'' n d1 d2 b)[3]? = some n := by simp [pcC]
theorem pc_get68 (h1 : d1.length = 32) (h2 : d2.length = 32) : (pcC A la c B lk c' C c'' n d1 d2 b)[68]? = some b := by
  simp only [pcC, List.getElem?_toArray]
  rw [List.getElem?_append_right (by simp [h1, h2])]
  simp [h1, h2]
theorem pc_set3 : (pcC A la c B lk c' C c'' n d1 d2 b).setIfInBounds 3 n' = pcC A la c B lk c' C c'' n' d1 d2 b := by simp [pcC]
theorem pc_puts4 (h : e1.length = d1.length) : putsA (pcC A la c B lk c' C c'' n d1 d2 b) 4 e1 = pcC A la c B lk c' C c'' n e1 d2 b := by
  have := putsA_mid [.slice A la c, .slice B lk c', .slice C lk c'', n] d1 e1 (d2 ++ [b]) 4 rfl h
  simpa only [pcC, List.append_assoc] using this
theorem pc_puts36 (h1 : d1.length = 32) (h : e2.length = d2.length) : putsA (pcC A la c B lk c' C c'' n d1 d2 b) 36 e2 = pcC A la c B lk c' C c'' n d1 e2 b := by
  have := putsA_mid ([.slice A la c, .slice B lk c', .slice C lk c'', n] ++ d1) d2 e2 [b] 36 (by simp [h1]) h
  simpa only [pcC, List.append_assoc] using this
theorem pc_set68 (h1 : d1.length = 32) (h2 : d2.length = 32) : (pcC A la c B lk c' C c'' n d1 d2 b).setIfInBounds 68 b' = pcC A la c B lk c' C c'' n d1 d2 b' := by
  have := putsA_mid ([.slice A la c, .slice B lk c', .slice C lk c'', n] ++ d1 ++ d2) [b] [b'] [] 68 (by simp [h1, h2]) rfl
  simpa only [pcC, List.append_nil, putsA] using this
end
theorem store_run {P : Program} {w : World} {g : Nat} {t : TypeId} {cs : Array Value} (h : isBlk w g t cs) (off : Nat) (D : Array Value) (hl : off + D.size ≤ cs.size) (h1 : D.all (·.oneCell') = true) :
    (storeCells ⟨g, off, none⟩ D.toList).run P w = .ok () (w.setCells g off D.toList) := by
  have := run_storeCells_cells (P := P) g off D.toList 0 w (fun j hj => by rw [h.cell, Array.getElem?_eq_getElem (by simp at hj; omega)]; rfl) (fun j _ => h.frozen _) (fun v hv => (Array.all_eq_true_iff_forall_mem.1 h1) v (by simpa using hv))
  simpa using this
theorem sets_pc {w : World} {g : Nat} {T : TypeId} {A B C : Option Addr} {la c lk c' c'' : Nat} {n : Value} {d1 d2 e2 : List Value} {b : Value} (h : isBlk w g T (pcC A la c B lk c' C c'' n d1 d2 b)) (h1 : d1.length = 32) (h2 : e2.length = d2.length) :
    isBlk (w.setCells g 36 e2) g T (pcC A la c B lk c' C c'' n d1 e2 b) := by
  have := isBlk.puts e2 36 h
  rwa [pc_puts36 h1 h2] at this
namespace Sp
theorem sizeL_append : ∀ (a b : List (Bs × T)), sizeL (a ++ b) = sizeL a + sizeL b
  | [], b => by simp [sizeL]
  | (n, t) :: a, b => by rw [List.cons_append, sizeL, sizeL, sizeL_append a b]; omega
theorem showL_append : ∀ (a b : List (Bs × T)), showL (a ++ b) = showL a ++ showL b
  | [], b => rfl
  | (n, t) :: a, b => by
    rw [List.cons_append, showL, showL, showL_append a b]
    split <;> rfl
theorem showL_len : ∀ (a : List (Bs × T)), (showL a).length ≤ a.length
  | [] => Nat.le_refl _
  | (n, t) :: a => by
    have := showL_len a
    rw [showL]
    split <;> simp <;> omega
theorem showL_mem : ∀ (a : List (Bs × T)), ∀ x ∈ showL a, ∃ y ∈ a, y.1 = x.1
  | [], x, h => by cases h
  | (n, t) :: a, x, h => by
    rw [showL] at h
    split at h
    · obtain ⟨y, hy, e⟩ := showL_mem a x h
      exact ⟨y, List.mem_cons_of_mem _ hy, e⟩
    · rcases List.mem_cons.1 h with rfl | h
      · exact ⟨(n, t), List.mem_cons_self .., rfl⟩
      · obtain ⟨y, hy, e⟩ := showL_mem a x h
        exact ⟨y, List.mem_cons_of_mem _ hy, e⟩
def n0 (t : T) : Nat := if t.leaf = [] then 0 else 1
theorem sizeT_n0 : ∀ t : T, sizeT t = n0 t + sizeL t.kids
  | .mk _ _ => rfl
/-- The kids that are shown, of the first so many. -/
def shk (t : T) (k : Nat) : List Kid := (showL (t.kids.take k)).map fun x => (x.1, nsum (nodeT x.2))
theorem shk_succ (t : T) (k : Nat) (h : k < t.kids.length) : shk t (k + 1) = shk t k ++ if entries (showT (t.kids[k]).2) = [] then [] else [((t.kids[k]).1, nsum (nodeT (showT (t.kids[k]).2)))] := by
  unfold shk
  rw [List.take_succ_eq_append_getElem h, showL_append, List.map_append]
  congr 1
  rcases t.kids[k] with ⟨n, s⟩
  simp only [showL]
  split <;> rfl
theorem size_succ (t : T) (k : Nat) (h : k < t.kids.length) : sizeL (t.kids.take (k + 1)) = sizeL (t.kids.take k) + sizeT (t.kids[k]).2 := by
  rw [List.take_succ_eq_append_getElem h, sizeL_append]
  rcases t.kids[k] with ⟨n, s⟩
  simp [sizeL]
theorem sizeL_take (k : List (Bs × T)) (n : Nat) : sizeL (k.take n) ≤ sizeL k := by
  have := sizeL_append (k.take n) (k.drop n)
  rw [List.take_append_drop] at this
  omega
theorem size_kid : ∀ (k : List (Bs × T)), ∀ x ∈ k, sizeT x.2 ≤ sizeL k
  | [], x, h => by cases h
  | (n, t) :: r, x, h => by
    rw [sizeL]
    rcases List.mem_cons.1 h with rfl | h
    · show sizeT t ≤ _
      omega
    · have := size_kid r x h; omega
theorem show_node (t : T) : nodeT (showT t) = (live t.leaf, shk t t.kids.length) := by
  cases t with
  | mk l k =>
    unfold shk
    rw [showT, nodeT, kidsT_map]
    simp [T.leaf, T.kids]
theorem shown_dec (t : T) : (!decide (live t.leaf = [] ∧ shk t t.kids.length = [])) = decide (entries (showT t) ≠ []) := by
  cases t with
  | mk l k =>
    have h := shown_iff l k
    have e : (shk (.mk l k) (T.mk l k).kids.length = []) ↔ showL k = [] := by
      unfold shk
      simp [T.kids]
    simp only [T.leaf, e, h]
    by_cases h2 : entries (showT (.mk l k)) = [] <;> simp [h2]
end Sp
end Go.Proofs.YtmlfnidckfeebaaGreatDoor
