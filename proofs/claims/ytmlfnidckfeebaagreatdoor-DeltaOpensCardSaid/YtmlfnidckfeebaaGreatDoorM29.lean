/- Walks: what stands at a directory of a tree: its node, its leaf. Walks: the node of a directory of a tree. Walks: a tree's digests. Walks: the document's trees: what stands at a path; a name below a directory; what is below one. Walks: the document's word for 'below a directory'. -/
import Derived.Test.YtmlfnidckfeebaaGreatDoorM27
namespace Go.Proofs.YtmlfnidckfeebaaGreatDoor
open Go.RowKit Go.Shelf
attribute [local go_sem] yUpon strOf_toList
namespace Sp
theorem parts_len (d : Bs) : (parts d).length ≤ 4 := by
  unfold parts
  split
  · exact Nat.zero_le _
  · split
    · exact Nat.zero_le _
    · split
      · omega
      · exact Nat.zero_le _
def findS (t : T) (d : Bs) : Option T := if d = [] then some t else if parts d = [] then none else findT t (parts d)
theorem kid_fits {t : T} (h : Ok t) (hs : sizeT t ≤ 900000) {n : Bs} {s : T} (hk : kid t.kids n = some s) : Ok s ∧ sizeT s ≤ 900000 :=
  ⟨kid_ok t.kids n s (ok_rise h).2 hk, Nat.le_trans (kid_size t.kids n s hk) (by have := sizeT_n0 t; omega)⟩
end Sp
set_option maxRecDepth 100000 in
set_option maxHeartbeats 4000000 in
theorem find_calls (o : Option Sp.T) (v : Value) (d : Sp.Bs) (w : World) (h : TreeAt w v o) (hg : Sp.GoodO o) (K : KeysAt w 2) (M : MaxAt w) :
    Calls Tryz.prog 86 #[v, .string (strOf d)] w fun e w' => ∃ v', e = .returned v' ∧ OptAt w' v' (Sp.findS (o.getD .nil) d) ∧ Ext w w' := by
  have RC := Lib.hid (root_calls o v w h K)
  have MM := Lib.hid M
  obtain ⟨t, ht⟩ : ∃ t, t = o.getD .nil := ⟨_, rfl⟩
  rw [← ht] at RC ⊢
  have OK0 := Lib.hid (show Sp.Ok t by rw [ht]; exact getD_ok hg.1)
  have SZ0 := Lib.hid (show Sp.sizeT t ≤ 900000 by rw [ht, Sp.getD_size]; exact Nat.le_trans hg.2 (by decide))
  clear h K M ht hg
  go_enter Tryz.func86, Tryz.ntmps86
  go_wp2_with fail
  refine RC.out.mono ?_
  rintro e w1 ⟨g, rfl, hi, hb⟩
  have HI := Lib.hid hi
  have B1 := Lib.hid hb
  clear hi hb RC
  by_cases hd : d = []
  · subst hd
    have c1 : (([] : List UInt8).isEmpty) = true := rfl
    go_wp2
    go_ret
    exact ⟨_, rfl, .inr ⟨g, t, by rw [Sp.findS, if_pos rfl], rfl, HI.out⟩, B1.out⟩
  · have c1 : ((strOf d).toList == ([] : List UInt8)) = false := by rw [strOf_toList, beq_eq_false_iff_ne]; exact hd
    have c2 : ¬ strOf d = ⟨#[]⟩ := fun e => hd (by have := congrArg (fun s => s.data.toList) e; simpa using this)
    have c3 : ¬ d = [] := hd
    have c5 : d.isEmpty = false := by cases d with | nil => exact absurd rfl hd | cons _ _ => rfl
    have c6 : (d == []) = false := by rw [beq_eq_false_iff_ne]; exact hd
    have HD := Lib.hid hd
    clear hd
    go_wp2_with fail
    refine (parts_calls (strOf d) w1 (max_kept MM.out B1.out)).mono ?_
    intro e w2 hts
    obtain ⟨Ap, cp, rfl, hcp, hN, hb2⟩ := hts.nams
    rw [strOf_data] at hcp hN ⊢
    obtain ⟨ps, hps⟩ : ∃ ps, ps = Sp.parts d := ⟨_, rfl⟩
    have hp4 : ps.length ≤ 4 := by rw [hps]; exact Sp.parts_len d
    rw [← hps] at hcp hN ⊢
    have FS := Lib.hid (show Sp.findS t d = if ps = [] then none else Sp.findT t ps by rw [Sp.findS, if_neg HD.out, ← hps])
    have HN := Lib.hid hN
    have HI2 := Lib.hid (HI.out.ext hb2)
    have B2 := Lib.hid (B1.out.trans hb2)
    clear hts hcp hN hb2 hps
    by_cases hp : ps = []
    · subst hp
      go_wp2
      go_ret
      exact ⟨_, rfl, .inl ⟨by rw [FS.out]; simp, rfl⟩, B2.out⟩
    · have hl : ps.length ≠ 0 := fun h => hp (List.eq_nil_of_length_eq_zero h)
      have c4 : ((ps.length : Int) == 0) = false := by rw [beq_eq_false_iff_ne]; omega
      have FS2 := Lib.hid (show Sp.findS t d = Sp.findT t ps by rw [FS.out, if_neg hp])
      have HPN := Lib.hid hp
      clear hp
      go_wp2
      go_loopw [5, 21] (fun v5 v21 wr => ∃ (k gx : Nat) (tx : Sp.T), k ≤ ps.length ∧ v5 = .pointer (some ⟨gx, 0, none⟩) ∧ v21 = .int .i64 k ∧ InnerAt wr gx tx ∧ Sp.Ok tx ∧ Sp.sizeT tx ≤ 900000 ∧ Sp.findT tx (ps.drop k) = Sp.findT t ps ∧ Ext w2 wr) (fun _ v21 _ => ps.length - (intOf v21).toNat)
      case atStart => exact ⟨0, g, t, Nat.zero_le _, rfl, rfl, HI2.out, OK0.out, SZ0.out, rfl, Ext.refl _⟩
      case round =>
        obtain ⟨k, gx, tx, hk2, rfl, rfl, hix, hok, hsz, hft, hb⟩ := hrel
        have HB := Lib.hid hb
        by_cases hlt : k < ps.length
        · skip
          obtain ⟨nb, no, rfl, hnm⟩ := HN.out.at (by omega)
          have n1 := HB.out.cell (hnm k hlt)
          obtain ⟨n, hn⟩ : ∃ n, n = ps[k] := ⟨_, rfl⟩
          rw [← hn] at n1
          have FT := Lib.hid (show (Sp.kid tx.kids n).bind (fun s => Sp.findT s (ps.drop (k + 1))) = Sp.findT t ps by
            rw [List.drop_eq_getElem_cons hlt, ← hn] at hft
            exact hft)
          have KC := Lib.hid (ikid_calls tx gx n wr hix (ok_rise hok).1 (Sp.ok_fit hok (Nat.le_trans hsz (by decide))).2.2.1)
          have KF := Lib.hid (show ∀ s, Sp.kid tx.kids n = some s → Sp.Ok s ∧ Sp.sizeT s ≤ 900000 from fun s hs => Sp.kid_fits hok hsz hs)
          have b1 : (k : Int) < (ps.length : Int) := by omega
          clear hix hok hsz hft hb hnm hn
          go_wp2_with fail
          refine KC.out.mono ?_
          rintro e w4 ⟨v4, rfl, ho4, hb4⟩
          have E4 := Lib.hid (HB.out.trans hb4)
          rcases ho4 with ⟨h4, rfl⟩ | ⟨g4, t4, h4, rfl, hi4⟩
          · have F4 := Lib.hid (show Sp.findT t ps = none by rw [← FT.out, h4]; rfl)
            clear h4 hb4
            go_wp2
            go_ret
            exact ⟨_, rfl, .inl ⟨by rw [FS2.out, F4.out], rfl⟩, B2.out.trans E4.out⟩
          · have F4 := Lib.hid (show Sp.findT t4 (ps.drop (k + 1)) = Sp.findT t ps by rw [← FT.out, h4]; rfl)
            have OK4 := Lib.hid (KF.out t4 h4)
            have I4 := Lib.hid hi4
            clear h4 hb4 hi4
            go_wp2
            refine ⟨⟨k + 1, g4, t4, by omega, rfl, by go_num, I4.out, OK4.out.1, OK4.out.2, F4.out, E4.out⟩, by simp [intOf]; omega⟩
        · obtain rfl : k = ps.length := by omega
          rw [List.drop_length] at hft
          have F4 := Lib.hid (show some tx = Sp.findT t ps from hft)
          have I4 := Lib.hid hix
          clear hft hix hok hsz hb
          go_wp2
          go_ret
          exact ⟨_, rfl, .inr ⟨gx, tx, by rw [FS2.out, ← F4.out], rfl, I4.out⟩, B2.out.trans HB.out⟩
end Go.Proofs.YtmlfnidckfeebaaGreatDoor
namespace Go.Proofs.YtmlfnidckfeebaaGreatDoor
open Go.RowKit Go.Shelf
attribute [local go_sem] yUpon strOf_toList
theorem results_cell_two {P : Program} {fn : Func} {p u : Tmp} {ty : TypeId} (h : fn.results = #[.cell p ty, .tmp u]) (tmps : Array Value) (w : World) (g : Nat) (t : TypeId) (cs : Array Value) (d : TypeDesc)
    (hp : tmps.getD p undef = .pointer (some ⟨g, 0, none⟩)) (hg : isBlk w g t cs) (hu : P.underlying ty = some d) (hd : (match d with | .struct _ | .array _ _ => true | _ => false) = true) (hi : (P.info? ty).map (·.size) = some cs.size) :
    (results fn tmps).run P w = .ok (.tuple #[.agg cs, tmps.getD u undef]) w := by
  rw [results_cell_tmp h, hp]
  simp only [asAddr, Sem.run_pure, Result.andThen_ok]
  rw [run_loadVar_row w g t ty cs (0, 0) d hg hu hd hi]
  rfl
namespace Sp
theorem findT_fits : ∀ (d : List Bs) (t s : T), Ok t → sizeT t ≤ 900000 → findT t d = some s → Ok s ∧ sizeT s ≤ 900000
  | [], t, s, h, hs, e => by cases e; exact ⟨h, hs⟩
  | n :: d, t, s, h, hs, e => by
    rw [findT] at e
    cases hk : kid t.kids n with
    | none => rw [hk] at e; cases e
    | some u =>
      rw [hk] at e
      have := kid_fits h hs hk
      exact findT_fits d u s this.1 this.2 e
theorem findS_fits {t s : T} {d : Bs} (h : Ok t) (hs : sizeT t ≤ 900000) (e : findS t d = some s) : Ok s ∧ sizeT s ≤ 900000 := by
  unfold findS at e
  split at e
  · cases e; exact ⟨h, hs⟩
  · split at e
    · cases e
    · exact findT_fits _ _ _ h hs e
/-- The node at a directory; the empty one, if there is none. -/
def nodeS (t : T) (d : Bs) : Node := match findS t d with
  | none => ([], [])
  | some s => nodeT s
end Sp
set_option maxRecDepth 100000 in
set_option maxHeartbeats 4000000 in
theorem tnodeO_calls (o : Option Sp.T) (v : Value) (d : Sp.Bs) (w : World) (h : TreeAt w v o) (hg : Sp.GoodO o) (K : KeysAt w 2) (M : MaxAt w) :
    Calls Tryz.prog 212 #[v, .string (strOf d)] w fun e w' => ∃ A c B c', e = .returned (.tuple #[nodeV A (Sp.nodeS (o.getD .nil) d).1.length c B (Sp.nodeS (o.getD .nil) d).2.length c', .bool (Sp.findS (o.getD .nil) d).isSome]) ∧ Vers w' A (Sp.nodeS (o.getD .nil) d).1 ∧ Kids w' B (Sp.nodeS (o.getD .nil) d).2 ∧ Ext w w' ∧ w'.ownsRow w.heap.size 268 33 (.slice B (Sp.nodeS (o.getD .nil) d).2.length c') (Sp.nodeS (o.getD .nil) d).2.length (kidsC (Sp.nodeS (o.getD .nil) d).2) := by
  have FC := Lib.hid fun W (e : Ext w W) => find_calls o v d W (h.ext e) hg (K.ext e) (max_kept M e)
  obtain ⟨t, ht⟩ : ∃ t, t = o.getD .nil := ⟨_, rfl⟩
  rw [← ht] at FC ⊢
  have OK0 := Lib.hid (show Sp.Ok t by rw [ht]; exact getD_ok hg.1)
  have SZ0 := Lib.hid (show Sp.sizeT t ≤ 900000 by rw [ht, Sp.getD_size]; exact Nat.le_trans hg.2 (by decide))
  have tok1 : True := trivial
  clear h K M ht hg
  go_enter Tryz.func212, Tryz.ntmps212
  go_wp2_with (have _t := tok1; ((with_reducible refine at_alloc (t := 116) rfl ?_); refine box_new rfl (cs := #[.slice none 0 0, .slice none 0 0]) (t := 116) (by first | (go_simp; done) | (go_simp; rfl)) ?_; intro g2 w2 hg2 hx2 hb2; have H2 := Lib.hid hx2; have B2 := Lib.hid (show Ext w w2 from hb2); have GG2 := Lib.hid hg2; clear tok1 _t hx2 hb2 hg2))
  refine (FC.out w2 B2.out).mono ?_
  rintro e w3 ⟨v3, rfl, ho3, hb3⟩
  have B3 := Lib.hid (show Ext w2 w3 from hb3)
  have H3 := Lib.hid (H2.out.below hb3)
  clear hb3 FC
  rcases ho3 with ⟨h3, rfl⟩ | ⟨g3, s, h3, rfl, hi3⟩
  · have N3 := Lib.hid (show Sp.nodeS t d = ([], []) by rw [Sp.nodeS, h3])
    have F3 := Lib.hid h3
    have k0 := (H3.out.cell 0).trans rfl
    have k1 := (H3.out.cell 1).trans rfl
    have k2 := H3.out.frozen 0
    have k3 := H3.out.frozen 1
    clear h3
    go_wp2
    have hz := (H3.out.put 0 (.slice none 0 0) rfl).put 1 (.slice none 0 0) rfl
    refine bodyPost_ret (results_cell_two rfl _ _ g2 116 #[.slice none 0 0, .slice none 0 0] _ rfl hz Tryz.underlying116 rfl (by kernel_rfl)) rfl ?_
    rw [N3.out, F3.out]
    have e1 := (Only.set g2 0 (.slice none 0 0) w3).trans (Only.set g2 1 (.slice none 0 0) _)
    have BW := B2.out.trans B3.out
    exact ⟨none, 0, none, 0, rfl, ⟨[], rfl, Cells.nil _ _, fun x h => by cases h⟩, Kids.nil _ _, BW.from' (e1.below GG2.out BW.size), World.ownsRow_nil _ _ _ _⟩
  · have N3 := Lib.hid (show Sp.nodeS t d = Sp.nodeT s by rw [Sp.nodeS, h3])
    have F3 := Lib.hid h3
    have FT := Lib.hid (Sp.ok_fit (Sp.findS_fits OK0.out SZ0.out h3).1 (Nat.le_trans (Sp.findS_fits OK0.out SZ0.out h3).2 (by decide)))
    obtain ⟨A, B, C, c, c', c'', gs, hp⟩ := hi3.pre
    have IN := Lib.hid (inodeO_calls s g3 A B C c c' c'' gs _ w3 hp FT.out.1 FT.out.2.1 FT.out.2.2.1 FT.out.2.2.2.1)
    clear h3 hi3 hp
    go_wp2_with fail
    refine IN.out.mono ?_
    rintro e w4 ⟨A4, c4, B4, c5, rfl, hv4, hk4, hb4, ho4⟩
    have O4 := Lib.hid ho4
    have E34 := Lib.hid hb4
    have H4 := Lib.hid (H3.out.below hb4)
    have E4 := Lib.hid (B2.out.trans (B3.out.trans hb4))
    have V4 := Lib.hid hv4
    have K4 := Lib.hid hk4
    have k0 := (H4.out.cell 0).trans rfl
    have k1 := (H4.out.cell 1).trans rfl
    have k2 := H4.out.frozen 0
    have k3 := H4.out.frozen 1
    clear hv4 hk4 hb4 ho4
    go_wp2
    have hz := (H4.out.put 0 (.slice A4 s.leaf.length c4) rfl).put 1 (.slice B4 s.kids.length c5) rfl
    refine bodyPost_ret (results_cell_two rfl _ _ g2 116 #[.slice A4 s.leaf.length c4, .slice B4 s.kids.length c5] _ rfl hz Tryz.underlying116 rfl (by kernel_rfl)) rfl ?_
    have e1 := (Only.set g2 0 (.slice A4 s.leaf.length c4) w4).trans (Only.set g2 1 (.slice B4 s.kids.length c5) _)
    have hs : ∀ z ∈ (#[.slice none 0 0, .slice none 0 0] : Array Value).toList, isSl z = true := by decide
    have nlen : (Sp.nodeT s).2.length = s.kids.length := by rw [nodeT_kids, List.length_map]
    rw [N3.out, F3.out]
    refine ⟨A4, c4, B4, c5, by rw [nodeT_leaf, nlen]; rfl, ?_, K4.out.apart e1 H4.out hs, E4.out.from' (e1.below GG2.out E4.out.size), ?_⟩
    · rw [nodeT_leaf]
      exact V4.out.apart e1 H4.out hs
    · have hfar : (Value.slice B4 s.kids.length c5).ownBlock ≠ some g2 := fun e => by
        have h1 := (O4.out.lt g2 e).1
        have h2 := H2.out.lt
        have h3 := B3.out.size
        omega
      rw [nlen]
      refine own_lowT' (own_far (own_far O4.out hfar _) hfar _) ?_
      have h3 := B3.out.size
      have h4 := B2.out.size
      omega
set_option maxRecDepth 100000 in
set_option maxHeartbeats 4000000 in
theorem tget_calls (o : Option Sp.T) (v : Value) (d : Sp.Bs) (w : World) (h : TreeAt w v o) (hg : Sp.GoodO o) (K : KeysAt w 2) (M : MaxAt w) :
    Calls Tryz.prog 29 #[v, .string (strOf d)] w fun e w' => ∃ A c, e = .returned (.slice A (Sp.nodeS (o.getD .nil) d).1.length c) ∧ Vers w' A (Sp.nodeS (o.getD .nil) d).1 ∧ Ext w w' := by
  have FC := Lib.hid (find_calls o v d w h hg K M)
  obtain ⟨t, ht⟩ : ∃ t, t = o.getD .nil := ⟨_, rfl⟩
  rw [← ht] at FC ⊢
  have OK0 := Lib.hid (show Sp.Ok t by rw [ht]; exact getD_ok hg.1)
  have SZ0 := Lib.hid (show Sp.sizeT t ≤ 900000 by rw [ht, Sp.getD_size]; exact Nat.le_trans hg.2 (by decide))
  clear h K M ht hg
  go_enter Tryz.func29, Tryz.ntmps29
  go_wp2_with fail
  refine FC.out.mono ?_
  rintro e w3 ⟨v3, rfl, ho3, hb3⟩
  have B3 := Lib.hid (show Ext w w3 from hb3)
  clear hb3 FC
  rcases ho3 with ⟨h3, rfl⟩ | ⟨g3, s, h3, rfl, hi3⟩
  · have N3 := Lib.hid (show Sp.nodeS t d = ([], []) by rw [Sp.nodeS, h3])
    clear h3
    go_wp2
    go_ret
    rw [N3.out]
    exact ⟨none, 0, rfl, ⟨[], rfl, Cells.nil _ _, fun x h => by cases h⟩, B3.out⟩
  · have N3 := Lib.hid (show (Sp.nodeS t d).1 = s.leaf by rw [Sp.nodeS, h3]; exact nodeT_leaf s)
    have FT := Lib.hid (Sp.ok_fit (Sp.findS_fits OK0.out SZ0.out h3).1 (Nat.le_trans (Sp.findS_fits OK0.out SZ0.out h3).2 (by decide)))
    obtain ⟨A, B, C, c, c', c'', gs, hp⟩ := hi3.pre
    have CP := Lib.hid (copied_calls s.leaf A c w3 hp.V FT.out.1 FT.out.2.1)
    have f0 := (hp.blk.cell 0).trans hp.c0
    clear h3 hi3 hp
    go_wp2_with fail
    refine CP.out.mono ?_
    rintro e w4 ⟨v4, rfl, hO4, hb4⟩
    obtain ⟨A4, c4, rfl, hV4⟩ := hO4.read
    have V4 := Lib.hid hV4
    have E4 := Lib.hid (B3.out.trans hb4)
    clear hO4 hV4 hb4
    go_wp2
    go_ret
    rw [N3.out]
    exact ⟨A4, c4, rfl, V4.out, E4.out⟩
end Go.Proofs.YtmlfnidckfeebaaGreatDoor
namespace Go.Proofs.YtmlfnidckfeebaaGreatDoor
open Go.RowKit Go.Shelf
attribute [local go_sem] yUpon strOf_toList
set_option maxRecDepth 100000 in
set_option maxHeartbeats 4000000 in
theorem troot_calls (o : Option Sp.T) (v : Value) (w : World) (h : TreeAt w v o) (K : KeysAt w 2) :
    Calls Tryz.prog 24 #[v] w fun e w' => e = .returned (digV (Sp.nsum (Sp.nodeT (o.getD .nil)))) ∧ Ext w w' := by
  have RC := Lib.hid fun W (e : Ext w W) => root_calls o v W (h.ext e) (K.ext e)
  obtain ⟨ds, hds⟩ : ∃ ds, ds = (Sp.nsum (Sp.nodeT (o.getD .nil))).map byteV := ⟨_, rfl⟩
  have DL := Lib.hid (show ds.length = 32 by rw [hds, List.length_map, Sp.nsum_len])
  have HD := Lib.hid hds
  have AS := Lib.hid (show ds.toArray.size = 32 by rw [List.size_toArray, hds, List.length_map, Sp.nsum_len])
  have DA := Lib.hid (show ds.toArray.all (·.oneCell') = true by rw [hds]; exact all_oneCell_toArray (bytes_one _))
  have tok1 : True := trivial
  have tok2 : True := trivial
  have tok3 : True := trivial
  clear h K hds
  go_enter Tryz.func24, Tryz.ntmps24
  go_wp2_with (have _t := tok1; ((with_reducible refine at_alloc (t := 36) rfl ?_); refine box_new rfl (cs := zero32) (t := 36) (by first | (go_simp; done) | (go_simp; rfl)) ?_; intro g2 w2 hg2 hx2 hb2; have H2 := Lib.hid hx2; have B2 := Lib.hid (show Ext w w2 from hb2); have GG2 := Lib.hid hg2; clear tok1 _t hx2 hb2 hg2))
  refine (RC.out w2 B2.out).mono ?_
  rintro e w3 ⟨g, rfl, hi, hb3⟩
  have H3 := Lib.hid (H2.out.below hb3)
  have E3 := Lib.hid (B2.out.trans hb3)
  have RNG := Lib.hid (show w3.rangeAt g 4 ds by rw [HD.out]; exact hi.cells.2.1)
  clear hi hb3 RC
  go_wp2_with (first
    | (have _t := tok2; ((with_reducible refine at_load (t := 36) rfl ?_); refine wpList_load_mid rfl _ _ rfl g 4 rfl ds _ RNG.out Tryz.underlying36 rfl (by rw [DL.out]; kernel_rfl) ?_; clear tok2 _t))
    | (have _t := tok3; ((with_reducible refine at_store (t := 36) rfl ?_); refine wpList_store_row rfl _ _ _ rfl g2 ds.toArray rfl rfl 36 _ H3.out (by rw [AS.out]; kernel_rfl) (by rw [AS.out]; rfl) DA.out ?_; clear tok3 _t)))
  refine bodyPost_ret (results_cell_row rfl _ _ g2 36 ds.toArray (0, 0) _ rfl (setRow_heap _ _ _ _ _ _ H3.out) Tryz.underlying36 rfl (by rw [AS.out]; kernel_rfl)) rfl ?_
  exact ⟨by rw [HD.out]; rfl, below_setRow E3.out GG2.out _⟩
end Go.Proofs.YtmlfnidckfeebaaGreatDoor
namespace Go.Proofs.YtmlfnidckfeebaaGreatDoor
open Go.RowKit Go.Shelf
attribute [local go_sem] yUpon strOf_toList
set_option maxRecDepth 100000 in
set_option maxHeartbeats 4000000 in
theorem rget_calls (l : List Sp.DE) (A : Option Addr) (cap : Nat) (p : Sp.Bs) (w : World) (h : EntsAt w A l) (hl : l.length ≤ 1000000) :
    Calls Tryz.prog 78 #[.slice A l.length cap, .string (strOf p)] w fun e w' => ∃ Av cv, e = .returned (.slice Av (Sp.rget l p).length cv) ∧ Vers w' Av (Sp.rget l p) ∧ w = w' := by
  have HH := Lib.hid h
  clear h
  go_enter Tryz.func78, Tryz.ntmps78
  go_wp2
  go_loopw [5] (fun v5 wr => ∃ k : Nat, k ≤ l.length ∧ v5 = .int .i64 k ∧ Sp.rget (l.drop k) p = Sp.rget l p ∧ w = wr) (fun v5 _ => l.length - (intOf v5).toNat)
  case atStart => exact ⟨0, Nat.zero_le _, rfl, rfl, rfl⟩
  case round =>
    obtain ⟨k, hk2, rfl, hr, rfl⟩ := hrel
    by_cases hlt : k < l.length
    · obtain ⟨eb, eo, rfl, he⟩ := HH.out.at (by omega)
      obtain ⟨Av, cv, c0, c1, hv⟩ := he k hlt
      obtain ⟨x, hx⟩ : ∃ x, x = l[k] := ⟨_, rfl⟩
      have RG := Lib.hid (show (if x.1 = p then x.2 else Sp.rget (l.drop (k + 1)) p) = Sp.rget l p by
        rw [← hr, List.drop_eq_getElem_cons hlt, hx]; rfl)
      rw [← hx] at c0 c1 hv
      have HV := Lib.hid hv
      have b1 : (k : Int) < (l.length : Int) := by omega
      clear hr he hx hv
      by_cases hp : x.1 = p
      · have e1 : (x.1 == p) = true := by rw [hp]; exact beq_self_eq_true _
        have RG2 := Lib.hid (show x.2 = Sp.rget l p by rw [← RG.out, if_pos hp])
        have HPP := Lib.hid hp
        clear hp
        go_wp2
        go_ret
        rw [← RG2.out]
        exact ⟨Av, cv, rfl, HV.out, rfl⟩
      · have e1 : (x.1 == p) = false := by rw [beq_eq_false_iff_ne]; exact hp
        have RG2 := Lib.hid (show Sp.rget (l.drop (k + 1)) p = Sp.rget l p by rw [← RG.out, if_neg hp])
        go_wp2
        refine ⟨⟨k + 1, by omega, by go_num, RG2.out, by first | rfl | trivial⟩, by simp [intOf]; omega⟩
    · obtain rfl : k = l.length := by omega
      rw [List.drop_length] at hr
      have RG := Lib.hid (show ([] : List Sp.Ver) = Sp.rget l p from hr)
      clear hr
      go_wp2
      go_ret
      rw [← RG.out]
      exact ⟨none, 0, rfl, ⟨[], rfl, Cells.nil _ _, fun x h => by cases h⟩, rfl⟩
namespace Sp
def down (d n : Bs) : Bs := if d = [] then n else d ++ 47 :: n
end Sp
set_option maxRecDepth 100000 in
theorem down_calls (d n : Sp.Bs) (w : World) (hdl : d.length ≤ 1000) (hnl : n.length ≤ 1000) : Calls Tryz.prog 143 #[.string (strOf d), .string (strOf n)] w fun e w' => e = .returned (.string (strOf (Sp.down d n))) ∧ w = w' := by
  go_enter Tryz.func143, Tryz.ntmps143
  by_cases hd : d = []
  · subst hd
    have c1 : (([] : List UInt8).isEmpty) = true := rfl
    go_wp2
    go_ret
    exact ⟨by rw [Sp.down, if_pos rfl]; rfl, rfl⟩
  · have c5 : d.isEmpty = false := by cases d with | nil => exact absurd rfl hd | cons _ _ => rfl
    have c6 : (d == []) = false := by rw [beq_eq_false_iff_ne]; exact hd
    have z1 : ¬ 9223372036854775807 < (strOf d).size + 1 := by rw [strOf_size]; omega
    have z2 : ¬ 9223372036854775807 < (strOf d).size + 1 + (strOf n).size := by rw [strOf_size, strOf_size]; omega
    go_wp2
    go_ret
    have e : strOf d ++ ⟨#[47]⟩ ++ strOf n = strOf (Sp.down d n) := by
      rw [Sp.down, if_neg hd]
      apply ByteArray.ext
      simp [strOf]
    exact ⟨congrArg (fun s => Ending.returned (.string s)) e, rfl⟩
end Go.Proofs.YtmlfnidckfeebaaGreatDoor
namespace Go.Proofs.YtmlfnidckfeebaaGreatDoor
open Go.RowKit Go.Shelf
attribute [local go_sem] yUpon strOf_toList
namespace Sp
def bad (p d : Bs) : Bool := decide (parts p = []) || (decide (d ≠ []) && decide (parts d = [])) || decide ((parts p).length ≤ (parts d).length)
theorem under_bad (p d : Bs) : under p d = (!bad p d && decide ((parts p).take (parts d).length = parts d)) := by
  have h : decide ((parts d).length < (parts p).length) = !decide ((parts p).length ≤ (parts d).length) := by
    rw [← decide_not]
    congr 1
    simp [Nat.not_le]
  unfold under bad
  simp only [ne_eq, decide_not, h]
  generalize decide (parts p = []) = a1
  generalize decide (d = []) = a2
  generalize decide (parts d = []) = a3
  generalize decide ((parts p).length ≤ (parts d).length) = a4
  cases a1 <;> cases a2 <;> cases a3 <;> cases a4 <;> rfl
end Sp
set_option maxRecDepth 100000 in
set_option maxHeartbeats 4000000 in
theorem under_calls (p d : Sp.Bs) (w : World) (hpl : p.length ≤ 1000000) (hdl : d.length ≤ 1000000) :
    Calls Tryz.prog 25 #[.string (strOf p), .string (strOf d)] w fun e w' => e = .returned (.bool (Sp.under p d)) ∧ Ext w w' := by
  have PP := Lib.hid (show ∀ W, _ from fun W => rparts_calls (strOf p) W (by rw [strOf_size]; omega))
  have PD := Lib.hid (show ∀ W, _ from fun W => rparts_calls (strOf d) W (by rw [strOf_size]; omega))
  have UB := Lib.hid (Sp.under_bad p d)
  have hP4 := Sp.parts_len p
  have hD4 := Sp.parts_len d
  rw [strOf_data] at PP PD
  obtain ⟨P, hP⟩ : ∃ P, P = Sp.parts p := ⟨_, rfl⟩
  obtain ⟨D, hD⟩ : ∃ D, D = Sp.parts d := ⟨_, rfl⟩
  rw [← hP, ← hD] at UB
  rw [← hP] at PP hP4
  rw [← hD] at PD hD4
  obtain ⟨bb, hbb⟩ : ∃ bb, bb = Sp.bad p d := ⟨_, rfl⟩
  rw [← hbb] at UB
  have HBB := Lib.hid (show bb = (decide (P = []) || (decide (d ≠ []) && decide (D = [])) || decide (P.length ≤ D.length)) by rw [hbb, Sp.bad, hP, hD])
  clear hP hD hbb
  go_enter Tryz.func25, Tryz.ntmps25
  go_wp2_with fail
  refine (PP.out w).mono ?_
  intro e w1 ht
  obtain ⟨A1, c1, rfl, _, hN1, hb1⟩ := ht.nams
  have N1 := Lib.hid hN1
  have B1 := Lib.hid hb1
  clear ht hN1 hb1
  go_wp2_with fail
  refine (PD.out w1).mono ?_
  intro e w2 ht
  obtain ⟨A2, c2, rfl, _, hN2, hb2⟩ := ht.nams
  have N2 := Lib.hid hN2
  have N12 := Lib.hid (N1.out.ext hb2)
  have B2 := Lib.hid (B1.out.trans hb2)
  clear ht hN2 hb2 PP PD
  go_upto_region 2 with fail
  go_cut [30] (fun v30 wx => v30 = .bool bb ∧ wx = w2)
  case first =>
    by_cases h1 : P = []
    · have r := Lib.hid (show bb = true by rw [HBB.out]; simp [h1])
      have e1 : P.length = 0 := by rw [h1]; rfl
      have z := Lib.hid h1
      clear h1
      go_wp2
      go_meet
      case rel => exact ⟨by rw [r.out], rfl⟩
    · have e1 : ((P.length : Int) == 0) = false := by rw [beq_eq_false_iff_ne]; intro h; exact h1 (List.eq_nil_of_length_eq_zero (by omega))
      have e2 : ¬ P.length = 0 := fun h => h1 (List.eq_nil_of_length_eq_zero h)
      by_cases h4 : P.length ≤ D.length
      · have f1 : (P.length : Int) ≤ (D.length : Int) := by omega
        have r := Lib.hid (show bb = true by rw [HBB.out]; simp [h4])
        by_cases h2 : d = []
        · subst h2
          have c1 : (([] : List UInt8).isEmpty) = true := rfl
          clear h1
          go_wp2
          go_meet
          case rel => exact ⟨by rw [r.out], rfl⟩
        · have c5 : d.isEmpty = false := by cases d with | nil => exact absurd rfl h2 | cons _ _ => rfl
          have c6 : (d == []) = false := by rw [beq_eq_false_iff_ne]; exact h2
          have e3 : ((D.length : Int) == 0) = false := by rw [beq_eq_false_iff_ne]; omega
          have e4 : ¬ D.length = 0 := by omega
          clear h1
          go_wp2
          go_meet
          case rel => exact ⟨by rw [r.out], rfl⟩
      · have f1 : ¬ (P.length : Int) ≤ (D.length : Int) := by omega
        by_cases h2 : d = []
        · subst h2
          have c1 : (([] : List UInt8).isEmpty) = true := rfl
          have r := Lib.hid (show bb = false by rw [HBB.out]; simp [h4, h1])
          clear h1
          go_wp2
          go_meet
          case rel => exact ⟨by rw [r.out], rfl⟩
        · have c5 : d.isEmpty = false := by cases d with | nil => exact absurd rfl h2 | cons _ _ => rfl
          have c6 : (d == []) = false := by rw [beq_eq_false_iff_ne]; exact h2
          by_cases h3 : D = []
          · have r := Lib.hid (show bb = true by rw [HBB.out]; simp [h2, h3])
            have e3 : ((D.length : Int) == 0) = true := by rw [h3]; rfl
            clear h1 h3
            go_wp2
            go_meet
            case rel => exact ⟨by rw [r.out], rfl⟩
          · have r := Lib.hid (show bb = false by rw [HBB.out]; simp [h4, h1, h3])
            have e3 : ((D.length : Int) == 0) = false := by rw [beq_eq_false_iff_ne]; intro h; exact h3 (List.eq_nil_of_length_eq_zero (by omega))
            have e4 : ¬ D.length = 0 := fun h => h3 (List.eq_nil_of_length_eq_zero h)
            clear h1 h3
            go_wp2
            go_meet
            case rel => exact ⟨by rw [r.out], rfl⟩
  case rest =>
    obtain ⟨rfl, hwc⟩ := hcut
    rw [hwc]
    clear hwc
    cases bb with
    | true =>
      go_wp2
      go_ret
      exact ⟨by rw [UB.out]; rfl, B2.out⟩
    | false =>
      have hlt0 : D.length < P.length := by
        have := HBB.out
        have h := this.symm
        simp only [Bool.or_eq_false_iff, decide_eq_false_iff_not] at h
        omega
      go_wp2
      go_loopw [7] (fun v7 wr => ∃ k : Nat, k ≤ D.length ∧ v7 = .int .i64 k ∧ P.take k = D.take k ∧ Ext w2 wr) (fun v7 _ => D.length - (intOf v7).toNat)
      case atStart => exact ⟨0, Nat.zero_le _, rfl, rfl, Ext.refl _⟩
      case round =>
        obtain ⟨k, hk2, rfl, ht, hb⟩ := hrel
        have HT := Lib.hid ht
        have HB := Lib.hid hb
        clear ht hb
        by_cases hlt : k < D.length
        · obtain ⟨a1, o1, rfl, hn1⟩ := N12.out.at (by omega)
          obtain ⟨a2, o2, rfl, hn2⟩ := N2.out.at (by omega)
          have hkP : k < P.length := by omega
          have x1 := HB.out.cell (hn1 k hkP)
          have x2 := HB.out.cell (hn2 k hlt)
          have TP := Lib.hid (List.take_succ_eq_append_getElem hkP)
          have TD := Lib.hid (List.take_succ_eq_append_getElem hlt)
          obtain ⟨y1, hy1⟩ : ∃ y, y = P[k] := ⟨_, rfl⟩
          obtain ⟨y2, hy2⟩ : ∃ y, y = D[k] := ⟨_, rfl⟩
          rw [← hy1] at x1 TP
          rw [← hy2] at x2 TD
          have X1 := Lib.hid (show wr.drew.cell? ⟨a1, o1 + k, none⟩ = some (.string (strOf y1)) from x1)
          have X2 := Lib.hid (show wr.drew.cell? ⟨a2, o2 + k, none⟩ = some (.string (strOf y2)) from x2)
          have b1 : (k : Int) < (D.length : Int) := by omega
          have b2 : (k : Int) < (P.length : Int) := by omega
          clear hn1 hn2 hy1 hy2 x1 x2
          by_cases hy : y1 = y2
          · have e1 : (y1 == y2) = true := by rw [hy]; exact beq_self_eq_true _
            have HY := Lib.hid hy
            clear hy
            go_wp2_with fail
            refine wp_region_det (fun W => W = wr.drew) (by kernel_rfl) (by kernel_rfl) rfl ?_
            repeat (first
              | (refine det_step (fun K hK => ?_)
                 apply Exists.intro
                 refine ⟨Or.inl ⟨rfl, fun W hS => ?_⟩, ?_⟩
                 · have hz : W = wr.drew := hS; subst hz; have x1 := X1.out; have x2 := X2.out
                   go_simp
                   first
                   | exact rfl
                   | exact ⟨rfl, hS⟩
                   | (fail)
                 go_simp
                 refine hK _ ?_
                 clear hK K)
              | (refine det_step (fun K hK => ?_); refine det_no' rfl ?_; go_simp; refine hK _ ?_; clear hK K))
            refine det_nil ?_
            rintro W rfl
            go_wp2
            refine ⟨⟨k + 1, by omega, by go_num, by rw [TP.out, TD.out, HT.out, HY.out], HB.out.drew⟩, by simp [intOf]; omega⟩
          · have e1 : (y1 == y2) = false := by rw [beq_eq_false_iff_ne]; exact hy
            have HY := Lib.hid hy
            clear hy
            go_wp2_with fail
            refine wp_region_det (fun W => W = wr.drew) (by kernel_rfl) (by kernel_rfl) rfl ?_
            repeat (first
              | (refine det_step (fun K hK => ?_)
                 apply Exists.intro
                 refine ⟨Or.inl ⟨rfl, fun W hS => ?_⟩, ?_⟩
                 · have hz : W = wr.drew := hS; subst hz; have x1 := X1.out; have x2 := X2.out
                   go_simp
                   first
                   | exact rfl
                   | exact ⟨rfl, hS⟩
                   | (fail)
                 go_simp
                 refine hK _ ?_
                 clear hK K)
              | (refine det_step (fun K hK => ?_); refine det_no' rfl ?_; go_simp; refine hK _ ?_; clear hK K))
            refine det_nil ?_
            rintro W rfl
            go_wp2
            go_ret
            refine ⟨?_, B2.out.trans HB.out.drew⟩
            rw [UB.out]
            have hne : ¬ P.take D.length = D := by
              intro h
              have h2 := congrArg (List.take (k + 1)) h
              rw [List.take_take, Nat.min_eq_left (by omega), TP.out, TD.out] at h2
              have h3 := List.append_inj_right' h2 rfl
              exact HY.out (by injection h3)
            rw [decide_eq_false hne]; rfl
        · obtain rfl : k = D.length := by omega
          have HT2 := Lib.hid (show P.take D.length = D by rw [HT.out, List.take_length])
          go_wp2
          go_ret
          refine ⟨?_, B2.out.trans HB.out⟩
          rw [UB.out, decide_eq_true HT2.out]; rfl
end Go.Proofs.YtmlfnidckfeebaaGreatDoor
