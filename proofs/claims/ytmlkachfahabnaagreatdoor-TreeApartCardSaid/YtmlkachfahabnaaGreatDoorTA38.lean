/- A law for a region that draws its order: first operations that tell one value in every world of a kind T, and may come late; then a forced sequence, the first so many of which stay in T. Walks: the document's node of a directory. -/
import Derived.Test.YtmlkachfahabnaaGreatDoorTA26
import Derived.Test.YtmlkachfahabnaaGreatDoorTA37
namespace Go.Proofs.YtmlkachfahabnaaGreatDoor
open Go.RowKit
section
variable {P : Program} {md : Region.Mode} {ops : Array Oper} {T : World → Prop}
/-- A forced sequence: behind each of the first n operations the world is of the kind T. -/
def wpSeqT (P : Program) (ops : Array Oper) (T : World → Prop) (Q : Exit → Act → World → Prop) : Nat → List Oper → Act → World → Prop
  | 0, l, a, w => wpList P ops (goesOn Q) l a w
  | _ + 1, [], _, _ => False
  | n + 1, o :: l, a, w => wpList P ops (fun e a w => e = .normal ∧ T w ∧ wpSeqT P ops T Q n l a w) [o] a w
theorem seqT_zero {Q : Exit → Act → World → Prop} {l : List Oper} {a : Act} {w : World} (h : wpList P ops (goesOn Q) l a w) : wpSeqT P ops T Q 0 l a w := h
theorem seqT_succ {Q : Exit → Act → World → Prop} {n : Nat} {o : Oper} {l : List Oper} {a : Act} {w : World} (h : ∀ Q' : Exit → Act → World → Prop, (∀ a w, T w → wpSeqT P ops T Q n l a w → Q' .normal a w) → wpList P ops Q' [o] a w) : wpSeqT P ops T Q (n + 1) (o :: l) a w := h _ fun _ _ h1 h2 => ⟨rfl, h1, h2⟩
theorem wpOp_of_one {Q Q2 : Exit → Act → World → Prop} {K : Act → World → Prop} {i : Nat} {o : Oper} {a : Act} {w : World} (hi : ops[i]? = some o) (hQ : ∀ e a w, Q2 e a w → e = .normal) (hK : ∀ a w, Q2 .normal a w → K a w) (hh : wpList P ops Q2 [o] a w) : wpOp P ops Q i K a w := by
  unfold wpOp
  simp only [hi]
  unfold wpList at hh
  by_cases hwt : Region.wanted o (yielded ops a.tmps) = true
  · rw [if_pos hwt] at hh ⊢
    rcases hh with hh | ⟨_, hh⟩
    · left
      unfold Oper.wp at hh ⊢
      generalize (execOp a.eval o).run P w = r at hh ⊢
      cases r with
      | ok x w2 =>
        cases x with
        | value u => exact hK _ _ hh
        | skip => exact hK _ _ hh
        | defer d => exact hK _ _ hh
        | enter f args =>
          refine Calls.mono hh fun e w3 he => ?_
          cases e with
          | returned u => exact hK _ _ he
          | panicked c => cases hQ _ _ _ he
          | outgrown => obtain ⟨_, _, h⟩ := he; cases hQ _ _ _ h
        | row row args => exact Rows.mono hh fun u w3 he => hK _ _ he
        | _ => exact hh
      | halt x w2 =>
        cases x with
        | panic u => cases hQ _ _ _ hh
        | _ => exact hh
    · obtain ⟨_, _, h⟩ := hh; cases hQ _ _ _ h
  · rw [if_neg hwt] at hh ⊢
    exact hK _ _ hh
theorem wpAnyT_of_seqT {m : Nat} {Q : Exit → Act → World → Prop} : ∀ (n : Nat) (l : List Oper) (k : Nat) (listed : Array Bool) (a : Act) (w : World), k + n = m → (∀ j, l[j]? = ops[k + j]?) →
    Region.seqB md ops l.length k listed = true → wpSeqT P ops T Q n l a w → wpAnyT P md ops T m (goesOn Q) l.length listed a w
  | 0, l, k, listed, a, w, hm, hl, hB, h => wpAnyT_of_seq l k listed a w (by omega) hl hB h
  | n + 1, [], _, _, _, _, _, _, _, h => h.elim
  | n + 1, o :: l, k, listed, a, w, hm, hl, hB, h => by
    have h0 : ops[k]? = some o := by simpa using (hl 0).symm
    simp only [List.length_cons, Region.seqB, Bool.and_eq_true, decide_eq_true_eq] at hB
    refine ⟨fun h1 => (by rw [hB.1] at h1; cases h1), fun i hi => ?_⟩
    rw [hB.1] at hi
    obtain rfl : i = k := by simpa using hi
    exact wpOp_of_one h0 (fun e a w h => h.1) (fun a2 w2 h2 => ⟨fun _ => h2.2.1, wpAnyT_of_seqT n l (i + 1) _ a2 w2 (by omega) (fun j => by have := hl (j + 1); simpa [Nat.add_assoc, Nat.add_comm 1 j] using this) hB.2 h2.2.2⟩) h
def lexSeqB (md : Region.Mode) (ops : Array Oper) (p m : Nat) : Bool :=
  Region.noSelect ops && decide (p ≤ m) && decide (m < ops.size) && sinkFrom md ops 0 m && behindB md ops m && headB md ops (Region.seqB md ops (ops.size - p) p) p 0 (Array.replicate ops.size false)
theorem wpAny_region_seqT (T : World → Prop) {Q : Exit → Act → World → Prop} {a : Act} {w : World} {l : List Oper} (p m : Nat) (hB : lexSeqB .any l.toArray p m = true)
    (hT : T w.drew) (h : wpFloatT P l.toArray T (fun a => wpSeqT P l.toArray T Q (m - p) (l.drop p) a w.drew) (l.take p) a) : wpAny P .any l.toArray (goesOn Q) l.toArray.size (Array.replicate l.toArray.size false) a w.drew := by
  simp only [lexSeqB, Bool.and_eq_true, decide_eq_true_eq] at hB
  obtain ⟨⟨⟨⟨⟨hsel, hpm⟩, hms⟩, hs⟩, hc⟩, hlex⟩ := hB
  have hms' : m < l.length := by simpa using hms
  have hpl : (l.take p).length = p := by simp; omega
  have hdl : (l.drop p).length = l.toArray.size - p := by simp
  have inv0 : ∀ k, HeadInv .any l.toArray k (Array.replicate l.toArray.size false) := fun k =>
    ⟨by simp, fun j oj _ hl => (by rw [getD_replicate_false] at hl; cases hl), fun t _ ht => getD_in (by simpa using ht) (getD_replicate_false _ _)⟩
  refine wpAny_of_T (T := T) (m := m) _ _ _ _ ?_
  have pre := wpAnyT_of_pre (P := P) (T := T) (md := .any) (ops := l.toArray) (n := p) (m := m) (g := l.toArray.size - p) (B := Region.seqB .any l.toArray (l.toArray.size - p) p) (Q := goesOn Q) (fun c a w h => by cases h.1) hsel hpm hms
    (fun ls hi i hin hun t ht => tail_waits3 hs hc hms hi _ i rfl (Nat.zero_le _) hin hun t ht)
    (l.take p) 0 _ a w.drew (fun j hj => by have hj' : j < p := by rw [hpl] at hj; exact hj
                                            simp [hj']) (by rw [hpl]; omega) hT (inv0 p) (inv0 m) (fun j hj => absurd hj (Nat.not_lt_zero j)) (by rw [hpl]; exact hlex) ?_
  · rw [hpl, show l.toArray.size - p + p = l.toArray.size by omega] at pre
    exact pre
  · refine floatT_mono (fun a' hK => ?_) _ _ h
    intro listed' _ _ hB'
    have := wpAnyT_of_seqT (P := P) (T := T) (md := .any) (ops := l.toArray) (m := m) (Q := Q) (m - p) (l.drop p) p listed' a' w.drew (by omega) (fun j => by simp [List.getElem?_drop]) (by rw [hdl]; exact hB') hK
    rwa [hdl] at this
/-- p operations that tell one value in every world of the kind T; then a forced sequence, the operations ahead of the m-th of which stay in T. -/
theorem wp_region_seqT (T : World → Prop) {id : Nat} {Q : Exit → Act → World → Prop} {a : Act} {w : World} {l : List Oper} (p m : Nat) (hm : P.follows .mixedOrders = true) (hB : lexSeqB .any l.toArray p m = true)
    (hT : T w.drew) (h : wpFloatT P l.toArray T (fun a => wpSeqT P l.toArray T Q (m - p) (l.drop p) a w.drew) (l.take p) a) : (Code.region id l.toArray true).wp P Q a w := by
  exact Code.wp_mono (Q := goesOn Q) (fun e a w h => by obtain ⟨rfl, h⟩ := h; exact h) (wp_region_any hm (wpAny_region_seqT T p m hB hT h))
end
end Go.Proofs.YtmlkachfahabnaaGreatDoor
namespace Go.Proofs.YtmlkachfahabnaaGreatDoor
open Go.RowKit Go.Shelf
attribute [local go_sem] yUpon strOf_toList
theorem kid_fold (s : ByteArray) (ds : List Value) (h : ds.length = 32) : List.foldl (fun (cs : Array Value) (x : Value × Nat) => cs.setIfInBounds (1 + x.snd) x.fst) (#[.string s, .int .u8 0, .int .u8 0, .int .u8 0, .int .u8 0, .int .u8 0, .int .u8 0, .int .u8 0, .int .u8 0, .int .u8 0, .int .u8 0, .int .u8 0, .int .u8 0, .int .u8 0, .int .u8 0, .int .u8 0, .int .u8 0, .int .u8 0, .int .u8 0, .int .u8 0, .int .u8 0, .int .u8 0, .int .u8 0, .int .u8 0, .int .u8 0, .int .u8 0, .int .u8 0, .int .u8 0, .int .u8 0, .int .u8 0, .int .u8 0, .int .u8 0, .int .u8 0] : Array Value) ds.zipIdx = (.string s :: ds).toArray := by
  rw [fold_putsA 1 ds 0]
  have := putsA_mid [.string s] (List.replicate 32 (.int .u8 0)) ds [] 1 rfl (by rw [h]; rfl)
  rw [List.append_nil, List.append_nil] at this
  exact this
theorem kid_fold2 (ka : Array Value) (h : ka.size = 33) : Array.foldl (fun (cs : Array Value) (x : Value × Nat) => cs.setIfInBounds x.snd x.fst) (#[.string ⟨#[]⟩, .int .u8 0, .int .u8 0, .int .u8 0, .int .u8 0, .int .u8 0, .int .u8 0, .int .u8 0, .int .u8 0, .int .u8 0, .int .u8 0, .int .u8 0, .int .u8 0, .int .u8 0, .int .u8 0, .int .u8 0, .int .u8 0, .int .u8 0, .int .u8 0, .int .u8 0, .int .u8 0, .int .u8 0, .int .u8 0, .int .u8 0, .int .u8 0, .int .u8 0, .int .u8 0, .int .u8 0, .int .u8 0, .int .u8 0, .int .u8 0, .int .u8 0, .int .u8 0] : Array Value) ka.zipIdx 0 33 = ka := by
  have hz : 33 = ka.zipIdx.size := by rw [Array.size_zipIdx, h]
  rw [hz, ← Array.foldl_toList, Array.toList_zipIdx]
  have h1 := fold_putsA 0 ka.toList 0 (#[.string ⟨#[]⟩, .int .u8 0, .int .u8 0, .int .u8 0, .int .u8 0, .int .u8 0, .int .u8 0, .int .u8 0, .int .u8 0, .int .u8 0, .int .u8 0, .int .u8 0, .int .u8 0, .int .u8 0, .int .u8 0, .int .u8 0, .int .u8 0, .int .u8 0, .int .u8 0, .int .u8 0, .int .u8 0, .int .u8 0, .int .u8 0, .int .u8 0, .int .u8 0, .int .u8 0, .int .u8 0, .int .u8 0, .int .u8 0, .int .u8 0, .int .u8 0, .int .u8 0, .int .u8 0] : Array Value)
  simp only [Nat.zero_add] at h1
  rw [h1]
  have h2 := putsA_mid [] (#[.string ⟨#[]⟩, .int .u8 0, .int .u8 0, .int .u8 0, .int .u8 0, .int .u8 0, .int .u8 0, .int .u8 0, .int .u8 0, .int .u8 0, .int .u8 0, .int .u8 0, .int .u8 0, .int .u8 0, .int .u8 0, .int .u8 0, .int .u8 0, .int .u8 0, .int .u8 0, .int .u8 0, .int .u8 0, .int .u8 0, .int .u8 0, .int .u8 0, .int .u8 0, .int .u8 0, .int .u8 0, .int .u8 0, .int .u8 0, .int .u8 0, .int .u8 0, .int .u8 0, .int .u8 0] : Array Value).toList ka.toList [] 0 rfl (by rw [Array.length_toList, h]; rfl)
  simpa using h2
section
variable {P : Program} {ops : Array Oper}
end
set_option maxRecDepth 100000 in
set_option maxHeartbeats 4000000 in
theorem rnode_step (m : List Sp.DE) (hm : Sp.GoodM m) (A : Option Addr) (cap : Nat) (d : Sp.Bs) (hdir : Sp.Dir d) (hdl : d.length ≤ 1000) (s : Sp.T) (hok : Sp.Ok s) (hsz : Sp.sizeT s ≤ 200) (hsub : Sp.subs (Sp.toP m) (Sp.parts d) = Sp.entries s)
    (IH : ∀ i (h : i < s.kids.length) (w : World), EntsAt w A m → KeysAt w 0 → Calls Tryz.prog 30 #[.slice A m.length cap, .string (strOf (Sp.down d (s.kids[i]).1))] w fun e w' => ∃ A2 c2 B2 c3, e = .returned (nodeV A2 (s.kids[i]).2.leaf.length c2 B2 (s.kids[i]).2.kids.length c3) ∧ Vers w' A2 (s.kids[i]).2.leaf ∧ Kids w' B2 (Sp.nodeT (s.kids[i]).2).2 ∧ Ext w w')
    (w : World) (hE : EntsAt w A m) (K : KeysAt w 0) :
    Calls Tryz.prog 30 #[.slice A m.length cap, .string (strOf d)] w fun e w' => ∃ A2 c2 B2 c3, e = .returned (nodeV A2 s.leaf.length c2 B2 s.kids.length c3) ∧ Vers w' A2 s.leaf ∧ Kids w' B2 (Sp.nodeT s).2 ∧ Ext w w' := by
  have hget : Sp.rget m d = s.leaf := by
    rw [Sp.get_subs m hm.1 d hdir, hsub]
    cases s with
    | mk leaf k => exact Sp.get0_entries leaf k
  have hnam : Sp.rnames d [] m = s.kids.map (·.1) := by
    rw [Sp.names_subs d hdir m hm.1 [], hsub]
    cases s with
    | mk leaf k => exact Sp.namesE_entries leaf k hok.2.1 hok.2.2
  have GC := Lib.hid (show ∀ W, Ext w W → _ from fun W e => rget_calls m A cap d W (hE.ext e) (Nat.le_trans hm.2 (by decide)))
  have NC := Lib.hid (show ∀ W, Ext w W → _ from fun W e => rnames_calls m A cap d W (hE.ext e) (Nat.le_trans hm.2 (by decide)) (Sp.good_len hm) (Nat.le_trans hdl (by decide)))
  rw [hget] at GC
  rw [hnam, List.length_map] at NC
  have HIH := Lib.hid IH
  have HE := Lib.hid hE
  have KK := Lib.hid K
  have hkl : s.kids.length ≤ 200 := by
    have h1 := Sp.kids_size s.kids (ok_rise hok).2
    have h2 := Sp.sizeT_n0 s
    omega
  have HOK := Lib.hid hok
  have tok1 : True := trivial
  have tok2 : True := trivial
  clear hget hnam IH hE K hsub hok hm hdir
  go_enter Tryz.func30, Tryz.ntmps30
  go_wp2_with (have _t := tok1; ((with_reducible refine at_alloc (t := 51) rfl ?_); refine box_new rfl (cs := #[.slice none 0 0, .slice none 0 0]) (t := 51) (by first | (go_simp; done) | (go_simp; rfl)) ?_; intro g2 w2 hg2 hx2 hb2; have H2 := Lib.hid hx2; have B2 := Lib.hid (show Ext w w2 from hb2); have GG2 := Lib.hid hg2; clear tok1 _t hx2 hb2 hg2))
  refine (GC.out w2 B2.out).mono ?_
  rintro e w2' ⟨Av, cv, rfl, hv, rfl⟩
  have V2 := Lib.hid hv
  clear hv
  go_wp2_with (have _t := tok2; ((with_reducible refine at_alloc (t := 51) rfl ?_); refine box_new rfl (cs := #[.slice none 0 0, .slice none 0 0]) (t := 51) (by first | (go_simp; done) | (go_simp; rfl)) ?_; intro g4 w4 hg4 hx4 hb4; have H4 := Lib.hid hx4; have B4 := Lib.hid (show Ext w2 w4 from hb4); have GG4 := Lib.hid hg4; have k0 := (hx4.cell 0).trans rfl; have k1 := (hx4.cell 1).trans rfl; have k2 := hx4.frozen 0; have k3 := hx4.frozen 1; clear tok2 _t hx4 hb4 hg4))
  obtain ⟨w5, hw5⟩ : ∃ w5, w5 = (w4.setCell ⟨g4, 0, none⟩ (.slice Av s.leaf.length cv)).setCell ⟨g4, 1, none⟩ (.slice none 0 0) := ⟨_, rfl⟩
  have X5 := Lib.hid (show isBlk w5 g4 51 #[.slice Av s.leaf.length cv, .slice none 0 0] by rw [hw5]; exact (H4.out.put 0 _ rfl).put 1 _ rfl)
  have B5 := Lib.hid (show Ext w2 w5 by rw [hw5]; exact (B4.out.setCell GG4.out _).setCell GG4.out _)
  rw [← hw5]
  clear hw5 k0 k1 k2 k3
  refine (NC.out w5 (B2.out.trans B5.out)).mono ?_
  rintro e wn ⟨Bn, cn, rfl, hnn, hbn⟩
  have NN := Lib.hid hnn
  have BN := Lib.hid (show Ext w5 wn from hbn)
  have XN := Lib.hid (X5.out.below hbn)
  clear hnn hbn
  go_wp2
  have GN := Lib.hid (show g4 < wn.heap.size from XN.out.lt)
  have E5 := Lib.hid (show Ext w wn from B2.out.trans (B5.out.trans BN.out))
  have G4W := Lib.hid (show w.heap.size ≤ g4 from Nat.le_trans B2.out.size GG4.out)
  have hlen : (s.kids.map (·.1)).length = s.kids.length := List.length_map ..
  go_loopw [7] (fun v7 wr => ∃ (k : Nat) (v : Value), k ≤ s.kids.length ∧ v7 = .int .i64 k ∧ isBlk wr g4 51 #[.slice Av s.leaf.length cv, v] ∧ wr.ownsRow wn.heap.size 105 33 v k (kidsC ((Sp.nodeT s).2.take k)) ∧ Only g4 wn wr) (fun v7 _ => s.kids.length - (intOf v7).toNat)
  case atStart => exact ⟨0, _, Nat.zero_le _, rfl, XN.out, World.ownsRow_nil _ _ _ _, Only.refl _ _⟩
  case round =>
    obtain ⟨k, v, hk2, rfl, hx, ho, hon⟩ := hrel
    have HX := Lib.hid hx
    have HO := Lib.hid ho
    have ON := Lib.hid hon
    have EW := Lib.hid (show Ext w wr from E5.out.from' (hon.below G4W.out E5.out.size))
    have NW := Lib.hid (show Nams wr Bn (s.kids.map (·.1)) from Cells.apart NN.out hon XN.out (by
      intro z hz
      simp at hz
      rcases hz with rfl | rfl <;> rfl) (by
      intro u hu
      rw [strsC, List.getElem?_map] at hu
      cases hq : (s.kids.map (·.1))[0]? with
      | none => rw [hq] at hu; cases hu
      | some b => rw [hq] at hu; cases hu; rfl))
    clear hx ho hon
    by_cases hlt : k < s.kids.length
    · obtain ⟨nb, no, rfl, hnm⟩ := NW.out.at (by simp; omega)
      have n0 := hnm k (by simpa using hlt)
      rw [List.getElem_map] at n0
      have IK := Lib.hid (HIH.out k hlt)
      have NL := Lib.hid (show (s.kids[k]).1.length ≤ 12 from Sp.name_len (Sp.kids_names s.kids (ok_rise HOK.out).2 _ (List.getElem_mem hlt)))
      obtain ⟨x, hxk⟩ : ∃ x, x = s.kids[k] := ⟨_, rfl⟩
      rw [← hxk] at n0 IK NL
      have XK := Lib.hid hxk
      have k0 := (HX.out.cell 1).trans rfl
      have b1 : (k : Int) < (s.kids.length : Int) := by omega
      have DC := Lib.hid (down_calls d x.1 wr.drew hdl (by have := NL.out; omega))
      have tokD : True := trivial
      have tokN : True := trivial
      have tokS : True := trivial
      have X1 := Lib.hid n0
      have OKX := Lib.hid (show Sp.Ok x.2 from (by rw [hxk]; exact Sp.kid_ok s.kids _ _ (ok_rise HOK.out).2 (Sp.kid_at s.kids k hlt (ok_rise HOK.out).1)))
      have SZX := Lib.hid (show x.2.kids.length ≤ 200 from (by
        have h1 := Sp.kids_size x.2.kids (ok_rise OKX.out).2
        have h2 := Sp.sizeT_n0 x.2
        have h3 := Sp.kid_size s.kids (s.kids[k]).1 (s.kids[k]).2 (Sp.kid_at s.kids k hlt (ok_rise HOK.out).1)
        rw [← hxk] at h3
        have h4 := Sp.sizeT_n0 s
        omega))
      obtain ⟨ds, hds⟩ : ∃ ds, ds = (Sp.nsum (Sp.nodeT x.2)).map byteV := ⟨_, rfl⟩
      have DL := Lib.hid (show ds.length = 32 by rw [hds, List.length_map, Sp.nsum_len])
      have RSM := Lib.hid (show ∀ A c B c' W, Vers W A x.2.leaf → Kids W B (Sp.nodeT x.2).2 → KeysAt W 0 → Calls Tryz.prog 58 #[nodeV A x.2.leaf.length c B x.2.kids.length c'] W fun e w' => e = .returned (.agg ds.toArray) ∧ Ext W w' from fun A c B c' W hv hk hK => by
        have nl : (Sp.nodeT x.2).2.length = x.2.kids.length := by rw [nodeT_kids, List.length_map]
        have l0 : Sp.leaf x.2.leaf = 0 := by
          have := OKX.out
          cases hx2 : x.2 with
          | mk leaf kids =>
            rw [hx2] at this
            by_cases h0 : leaf = []
            · rw [h0]; rfl
            · exact this.1 h0
        have := rnsum_calls (Sp.nodeT x.2) A B c c' W (by rw [nodeT_leaf]; exact hv) hk (by rw [nodeT_leaf]; exact Nat.le_trans (Sp.leaf_ok l0).1 (by decide)) (by rw [nodeT_leaf]; exact fun v hv => ⟨Nat.le_trans (Sp.leaf_data l0 v hv) (by decide), Nat.le_trans ((Sp.leaf_fit fun _ => l0).2 v hv) (by decide)⟩) (by rw [nl]; exact Nat.le_trans SZX.out (by decide)) hK
        rw [nodeT_leaf, nl] at this
        rw [hds]
        exact this)
      obtain ⟨ka, hka⟩ : ∃ ka, ka = (kidL (x.1, Sp.nsum (Sp.nodeT x.2))).toArray := ⟨_, rfl⟩
      have BK := Lib.hid (show (Tryz.prog).built 105 [(0, .string (strOf x.1)), (1, .agg ds.toArray)] = some ka by rw [hka, hds]; exact built_kid (x.1, Sp.nsum (Sp.nodeT x.2)) (Sp.nsum_len _))
      have KA := Lib.hid hka
      have dl : ds.length = 32 := DL.out
      have hfold := kid_fold (strOf x.1) ds DL.out
      rw [show (Value.string (strOf x.1) :: ds).toArray = ka by rw [hka, hds]; rfl] at hfold
      have KS := Lib.hid (show ka.size = 33 by rw [hka, List.size_toArray, kidL_len _ (Sp.nsum_len _)])
      have ks := KS.out
      have hfold2 := kid_fold2 ka KS.out
      have KO := Lib.hid (show ∀ u ∈ ka.toList, u.oneCell' = true by
        rw [hka]
        intro u hu
        have : u ∈ kidsC [(x.1, Sp.nsum (Sp.nodeT x.2))] := by simpa [kidsC] using hu
        exact kids_one _ u this)
      have tokA : True := trivial
      clear hnm hxk hds hka
      go_wp2_with fail
      refine wp_region_seqT (fun W => Ext wr W) 12 17 (by kernel_rfl) (by kernel_rfl) (Ext.refl wr).drew ?_
      simp only [List.take_succ_cons, List.take_zero, List.drop_succ_cons, List.drop_zero]
      repeat (first
        | (refine floatT_step (fun K hK => ?_)
           apply Exists.intro
           refine ⟨Or.inl ⟨rfl, fun W hS => ?_⟩, ?_⟩
           · have hz : Ext wr W := hS; have k0 := ((HX.out.below hz).cell 1).trans rfl; have n0 := hz.cell X1.out
             go_simp
             first | done | exact rfl
           go_simp
           refine hK _ ?_
           clear hK K))
      refine floatT_nil ?_
      refine seqT_succ (n := 4) (fun Q' hQ' => ?_)
      go_wp2_with fail
      refine DC.out.mono ?_
      rintro e w8 ⟨rfl, rfl⟩
      go_wp2
      refine hQ' _ _ (Ext.refl wr).drew ?_
      clear hQ'
      refine seqT_succ (n := 3) (fun Q' hQ' => ?_)
      go_wp2_with fail
      refine (IK.out wr.drew (HE.out.ext EW.out.drew) (KK.out.ext EW.out.drew)).mono ?_
      rintro e w8 ⟨A8, c8, B8, c9, rfl, hv8, hk8, hb8⟩
      have V8 := Lib.hid hv8
      have K8 := Lib.hid hk8
      have B8' := Lib.hid (show Ext wr w8 from Below.trans (Below.refl _ _).drew hb8)
      clear hv8 hk8 hb8
      go_wp2
      refine hQ' _ _ B8'.out ?_
      clear hQ'
      refine seqT_succ (n := 2) (fun Q' hQ' => ?_)
      go_wp2_with fail
      refine (RSM.out _ _ _ _ w8 V8.out K8.out (KK.out.ext (EW.out.trans B8'.out))).mono ?_
      rintro e w9 ⟨rfl, hb9⟩
      have B9 := Lib.hid (show Ext wr w9 from B8'.out.trans hb9)
      clear hb9
      go_wp2
      refine hQ' _ _ B9.out ?_
      clear hQ'
      refine seqT_succ (n := 1) (fun Q' hQ' => ?_)
      go_wp2_with fail
      refine hQ' _ _ B9.out ?_
      clear hQ'
      refine seqT_succ (n := 0) (fun Q' hQ' => ?_)
      go_wp2_with ((with_reducible refine at_bslice rfl ?_); refine bslice_one rfl 49 105 _ rfl appKid (by decide) ka rfl KS.out ?_)
      refine hQ' _ _ (Below.alloc B9.out B9.out.size _) ?_
      clear hQ'
      refine seqT_zero ?_
      go_wp2_with (have _t := tokA; at_builtin; refine app_new appKid rfl _ _ rfl wn.heap.size v k _ rfl (own_ext HO.out B9.out) ka 105 1 rfl (by rw [KS.out]) KO.out (by decide) (by omega) (Nat.le_trans ON.out.size B9.out.size) ?_; intro g6 cap6 w10 hown10 hgr10 hb10 hbg10; have O10 := Lib.hid hown10; have B10 := Lib.hid hb10; have G10 := Lib.hid hbg10; have Z10 := Lib.hid (show isBlk w10 g4 51 #[.slice Av s.leaf.length cv, v] from (hb10.block g4 GN.out).trans (HX.out.below B9.out)); have k0 := (Z10.out.cell 1).trans rfl; have k1 := Z10.out.frozen 1; clear tokA _t hown10 hgr10 hb10 hbg10)
      refine ⟨rfl, ?_⟩
      go_wp2
      have hkl2 : k < (Sp.nodeT s).2.length := by rw [nodeT_kids, List.length_map]; exact hlt
      have e1 : kidsC ((Sp.nodeT s).2.take (k + 1)) = kidsC ((Sp.nodeT s).2.take k) ++ ka.toList := by
        rw [List.take_succ_eq_append_getElem hkl2, kidsC_snoc, KA.out]
        congr 1
        simp only [nodeT_kids, List.getElem_map, ← XK.out]
      have on10 : Only g4 wn w10 := (ON.out.then_ext (below_lower B9.out ON.out.size)).then_ext B10.out
      refine ⟨⟨k + 1, .slice (some ⟨g6, 0, none⟩) (k + 1) cap6, by omega, by go_num, Z10.out.put 1 _ rfl, ?_, on10.trans (Only.set _ _ _ _)⟩, by simp [intOf]; omega⟩
      rw [e1]
      exact own_far O10.out (fun e => by have e2 : g6 = g4 := Option.some.inj e
                                         have := G10.out; have := GN.out; omega) _
    · obtain rfl : k = s.kids.length := by omega
      obtain ⟨Bk, c3, rfl, hK⟩ := own_read HO.out
      have hne : g2 ≠ g4 := by have := H2.out.lt; have := GG4.out; omega
      have hZn : isBlk wn g2 51 #[.slice none 0 0, .slice none 0 0] := H2.out.below (B5.out.trans BN.out)
      have HZ := Lib.hid (show isBlk wr g2 51 #[.slice none 0 0, .slice none 0 0] from ON.out.blk hZn hne)
      have k0 := (HX.out.cell 0).trans rfl
      have k1 := (HX.out.cell 1).trans rfl
      have k2 := (HZ.out.cell 0).trans rfl
      have k3 := (HZ.out.cell 1).trans rfl
      have k4 := HZ.out.frozen 0
      have k5 := HZ.out.frozen 1
      go_wp2
      have hz := (HZ.out.put 0 (.slice Av s.leaf.length cv) rfl).put 1 (.slice Bk s.kids.length c3) rfl
      refine bodyPost_ret (results_cell_row rfl _ _ g2 51 #[.slice Av s.leaf.length cv, .slice Bk s.kids.length c3] (0, 0) _ rfl hz Tryz.underlying51 rfl (by kernel_rfl)) rfl ?_
      have e1 := (Only.set g2 0 (.slice Av s.leaf.length cv) wr).trans (Only.set g2 1 (.slice Bk s.kids.length c3) _)
      have hs : ∀ z ∈ (#[.slice none 0 0, .slice none 0 0] : Array Value).toList, isSl z = true := by decide
      have hs4 : ∀ z ∈ (#[.slice Av s.leaf.length cv, .slice none 0 0] : Array Value).toList, isSl z = true := by
        intro z hz
        simp at hz
        rcases hz with rfl | rfl <;> rfl
      have nl : (Sp.nodeT s).2.length = s.kids.length := by rw [nodeT_kids, List.length_map]
      rw [List.take_of_length_le (by omega)] at hK
      have KK2 : Kids wr Bk (Sp.nodeT s).2 := ⟨hK, fun y hy => by
        rw [nodeT_kids] at hy
        obtain ⟨u, hu, rfl⟩ := List.mem_map.1 hy
        exact ⟨Sp.nsum_len _, Nat.le_trans (Sp.name_len (Sp.kids_names s.kids (ok_rise HOK.out).2 u hu)) (by decide)⟩⟩
      have VR : Vers wr Av s.leaf := (V2.out.ext (B5.out.trans BN.out)).apart ON.out XN.out hs4
      exact ⟨Av, cv, Bk, c3, rfl, VR.apart e1 HZ.out hs, KK2.apart e1 HZ.out hs, EW.out.from' (e1.below GG2.out EW.out.size)⟩
end Go.Proofs.YtmlkachfahabnaaGreatDoor
