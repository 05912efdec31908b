/- Walks: slices.IndexFunc and slices.DeleteFunc at entries. Plain and walks: which paths are below a directory, as the program tells. Walks: walk.Under, walk.List. Walks: what is seen of entries: the document's. Walks: the document's node of a directory. Walks: the document's node of a directory is the tree's. What is found in a tree is what the document's list has there: plain. What is seen of a tree is a tree; a tree's entries with whole paths: plain. Walks: Dirs, of the program and of the document. -/
import Derived.Test.YtmlfnidckfeebaaGreatDoorM20
import Derived.Test.YtmlfnidckfeebaaGreatDoorM33
import Derived.Test.YtmlfnidckfeebaaGreatDoorM29
import Derived.Test.YtmlfnidckfeebaaGreatDoorM32
import Derived.Test.YtmlfnidckfeebaaGreatDoorM21
import Derived.Test.YtmlfnidckfeebaaGreatDoorM09
import Derived.Test.YtmlfnidckfeebaaGreatDoorM31
import Derived.Test.YtmlfnidckfeebaaGreatDoorM28
import Derived.Deep.DeepCutAuto
import Derived.Test.YtmlfnidckfeebaaGreatDoorM30
namespace Go.Proofs.YtmlfnidckfeebaaGreatDoor
open Go.RowKit Go.Shelf
attribute [local go_sem] yUpon strOf_toList
/-- An entry in memory: where its leaf lies, its room, what it is. -/
abbrev E3 := Option Addr × Nat × Sp.DE
def e3V (x : E3) : Value := .agg #[.string (strOf x.2.2.1), .slice x.1 x.2.2.2.length x.2.1]
theorem entsC_cons (x : E3) (r : List E3) : entsC (x :: r) = .string (strOf x.2.2.1) :: .slice x.1 x.2.2.2.length x.2.1 :: entsC r := rfl
theorem entsC_take : ∀ (mo : List E3) (k : Nat), (entsC mo).take (k * 2) = entsC (mo.take k)
  | [], k => by simp [entsC]
  | x :: r, 0 => by simp [entsC]
  | x :: r, k + 1 => by
    rw [show (k + 1) * 2 = k * 2 + 1 + 1 by omega, List.take_succ_cons, entsC_cons, entsC_cons, List.take_succ_cons, List.take_succ_cons, entsC_take r k]
theorem entsC_one : ∀ (mo : List E3), ∀ u ∈ entsC mo, u.oneCell' = true
  | [], u, h => by cases h
  | x :: r, u, h => by
    rw [entsC_cons] at h
    rcases List.mem_cons.1 h with rfl | h
    · rfl
    rcases List.mem_cons.1 h with rfl | h
    · rfl
    · exact entsC_one r u h
theorem own_take {w : World} {B g n cap : Nat} {e : TypeId} {size : Nat} {xs : List Value} (h : w.ownsRow B e size (.slice (some ⟨g, 0, none⟩) n cap) n xs) (k : Nat) (hk : k ≤ n) :
    w.ownsRow B e size (.slice (some ⟨g, 0, none⟩) k cap) k (xs.take (k * size)) := by
  obtain ⟨hl, h⟩ := h
  refine ⟨by rw [List.length_take, hl]; exact Nat.min_eq_left (Nat.mul_le_mul_right _ hk), ?_⟩
  rcases h with ⟨h, _⟩ | ⟨g', cap', cur, hv, hb, hh, hn, hc, hs, ht⟩
  · cases h
  · cases hv
    refine .inr ⟨g, cap, cur, rfl, hb, hh, Nat.le_trans hk hn, hc, hs, ?_⟩
    rw [← ht, List.take_take, Nat.min_eq_left (Nat.mul_le_mul_right _ hk)]
end Go.Proofs.YtmlfnidckfeebaaGreatDoor
namespace Go.Proofs.YtmlfnidckfeebaaGreatDoor
open Go.RowKit Go.Shelf
attribute [local go_sem] yUpon strOf_toList
namespace Sp
theorem under_root {p : Bs} (h : check p = 0) : under p [] = true := by
  have h1 := (check_parts h).1
  have h2 := split_ne p
  unfold under
  rw [parts_empty, h1]
  simp [h2, List.length_pos_iff]
end Sp
end Go.Proofs.YtmlfnidckfeebaaGreatDoor
namespace Go.Proofs.YtmlfnidckfeebaaGreatDoor
open Go.RowKit Go.Shelf
attribute [local go_sem] yUpon strOf_toList
namespace Sp
/-- Is a path below a directory, behind a text? -/
def behind (d a p : Bs) : Bool := under p d && decide (0 < compare p a)
end Sp
theorem EntsOwn.take {w : World} {B : Nat} {g n cap : Nat} {l : List Sp.DE} (h : EntsOwn w B (.slice (some ⟨g, 0, none⟩) n cap) l) (hn : n = l.length) (k : Nat) (hk : k ≤ n) : EntsOwn w B (.slice (some ⟨g, 0, none⟩) k cap) (l.take k) := by
  obtain ⟨mo, h1, h2, h3⟩ := h
  subst hn
  have hml : mo.length = l.length := by rw [← h1, List.length_map]
  refine ⟨mo.take k, by rw [List.map_take, h1], ?_, fun x hx => h3 x (List.mem_of_mem_take hx)⟩
  have h4 := own_take h2 k hk
  rw [entsC_take] at h4
  have e : (l.take k).length = k := by rw [List.length_take]; omega
  rw [e]
  exact h4
end Go.Proofs.YtmlfnidckfeebaaGreatDoor
namespace Go.Proofs.YtmlfnidckfeebaaGreatDoor
open Go.RowKit Go.Shelf
attribute [local go_sem] yUpon strOf_toList
namespace Sp
end Sp
/-- An entry whose versions were gathered: their vectors were there before. -/
def LiveAt (w wr : World) (x : Option Addr × Nat × Sp.DE) : Prop := ∃ mv : List (Option Addr × Nat × Sp.Ver), mv.map (·.2.2) = x.2.2.2 ∧ wr.ownsRow 0 71 5 (.slice x.1 x.2.2.2.length x.2.1) x.2.2.2.length (versC mv) ∧ ∀ y ∈ mv, Past w y.1 y.2.2
theorem LiveAt.keep {T : TypeId → Prop} (hT : ¬ T 71) {B : Nat} {w wr w' : World} {x : Option Addr × Nat × Sp.DE} (h : LiveAt w wr x) (k : KB T B wr w') : LiveAt w w' x := by
  obtain ⟨mv, h1, h2, h3⟩ := h
  exact ⟨mv, h1, own_keep hT h2 k, h3⟩
end Go.Proofs.YtmlfnidckfeebaaGreatDoor
namespace Go.Proofs.YtmlfnidckfeebaaGreatDoor
open Go.RowKit Go.Shelf
attribute [local go_sem] yUpon strOf_toList
theorem kid_fold (s : ByteArray) (ds : List Value) (h : ds.length = 32) : List.foldl (fun (cs : Array Value) (x : Value × Nat) => cs.setIfInBounds (1 + x.snd) x.fst) (#[.string s, .int .u8 0, .int .u8 0, .int .u8 0, .int .u8 0, .int .u8 0, .int .u8 0, .int .u8 0, .int .u8 0, .int .u8 0, .int .u8 0, .int .u8 0, .int .u8 0, .int .u8 0, .int .u8 0, .int .u8 0, .int .u8 0, .int .u8 0, .int .u8 0, .int .u8 0, .int .u8 0, .int .u8 0, .int .u8 0, .int .u8 0, .int .u8 0, .int .u8 0, .int .u8 0, .int .u8 0, .int .u8 0, .int .u8 0, .int .u8 0, .int .u8 0, .int .u8 0] : Array Value) ds.zipIdx = (.string s :: ds).toArray := by
  rw [fold_putsA 1 ds 0]
  have := putsA_mid [.string s] (List.replicate 32 (.int .u8 0)) ds [] 1 rfl (by rw [h]; rfl)
  rw [List.append_nil, List.append_nil] at this
  exact this
theorem kid_fold2 (ka : Array Value) (h : ka.size = 33) : Array.foldl (fun (cs : Array Value) (x : Value × Nat) => cs.setIfInBounds x.snd x.fst) (#[.string ⟨#[]⟩, .int .u8 0, .int .u8 0, .int .u8 0, .int .u8 0, .int .u8 0, .int .u8 0, .int .u8 0, .int .u8 0, .int .u8 0, .int .u8 0, .int .u8 0, .int .u8 0, .int .u8 0, .int .u8 0, .int .u8 0, .int .u8 0, .int .u8 0, .int .u8 0, .int .u8 0, .int .u8 0, .int .u8 0, .int .u8 0, .int .u8 0, .int .u8 0, .int .u8 0, .int .u8 0, .int .u8 0, .int .u8 0, .int .u8 0, .int .u8 0, .int .u8 0, .int .u8 0] : Array Value) ka.zipIdx 0 33 = ka := by
  have hz : 33 = ka.zipIdx.size := by rw [Array.size_zipIdx, h]
  rw [hz, ← Array.foldl_toList, Array.toList_zipIdx]
  have h1 := fold_putsA 0 ka.toList 0 (#[.string ⟨#[]⟩, .int .u8 0, .int .u8 0, .int .u8 0, .int .u8 0, .int .u8 0, .int .u8 0, .int .u8 0, .int .u8 0, .int .u8 0, .int .u8 0, .int .u8 0, .int .u8 0, .int .u8 0, .int .u8 0, .int .u8 0, .int .u8 0, .int .u8 0, .int .u8 0, .int .u8 0, .int .u8 0, .int .u8 0, .int .u8 0, .int .u8 0, .int .u8 0, .int .u8 0, .int .u8 0, .int .u8 0, .int .u8 0, .int .u8 0, .int .u8 0, .int .u8 0, .int .u8 0] : Array Value)
  simp only [Nat.zero_add] at h1
  rw [h1]
  have h2 := putsA_mid [] (#[.string ⟨#[]⟩, .int .u8 0, .int .u8 0, .int .u8 0, .int .u8 0, .int .u8 0, .int .u8 0, .int .u8 0, .int .u8 0, .int .u8 0, .int .u8 0, .int .u8 0, .int .u8 0, .int .u8 0, .int .u8 0, .int .u8 0, .int .u8 0, .int .u8 0, .int .u8 0, .int .u8 0, .int .u8 0, .int .u8 0, .int .u8 0, .int .u8 0, .int .u8 0, .int .u8 0, .int .u8 0, .int .u8 0, .int .u8 0, .int .u8 0, .int .u8 0, .int .u8 0, .int .u8 0] : Array Value).toList ka.toList [] 0 rfl (by rw [Array.length_toList, h]; rfl)
  simpa using h2
section
variable {P : Program} {ops : Array Oper}
end
set_option maxRecDepth 100000 in
set_option maxHeartbeats 4000000 in
theorem rnode_step (m : List Sp.DE) (hm : Sp.GoodM m) (A : Option Addr) (cap : Nat) (d : Sp.Bs) (hdir : Sp.Dir d) (hdl : d.length ≤ 1000) (s : Sp.T) (hok : Sp.Ok s) (hsz : Sp.sizeT s ≤ 200) (hsub : Sp.subs (Sp.toP m) (Sp.parts d) = Sp.entries s)
    (IH : ∀ i (h : i < s.kids.length) (w : World), EntsAt w A m → KeysAt w 0 → Calls Tryz.prog 149 #[.slice A m.length cap, .string (strOf (Sp.down d (s.kids[i]).1))] w fun e w' => ∃ A2 c2 B2 c3, e = .returned (nodeV A2 (s.kids[i]).2.leaf.length c2 B2 (s.kids[i]).2.kids.length c3) ∧ Vers w' A2 (s.kids[i]).2.leaf ∧ Kids w' B2 (Sp.nodeT (s.kids[i]).2).2 ∧ Ext w w')
    (w : World) (hE : EntsAt w A m) (K : KeysAt w 0) :
    Calls Tryz.prog 149 #[.slice A m.length cap, .string (strOf d)] w fun e w' => ∃ A2 c2 B2 c3, e = .returned (nodeV A2 s.leaf.length c2 B2 s.kids.length c3) ∧ Vers w' A2 s.leaf ∧ Kids w' B2 (Sp.nodeT s).2 ∧ Ext w w' := by
  have hget : Sp.rget m d = s.leaf := by
    rw [Sp.get_subs m hm.1 d hdir, hsub]
    cases s with
    | mk leaf k => exact Sp.get0_entries leaf k
  have hnam : Sp.rnames d [] m = s.kids.map (·.1) := by
    rw [Sp.names_subs d hdir m hm.1 [], hsub]
    cases s with
    | mk leaf k => exact Sp.namesE_entries leaf k hok.2.1 hok.2.2
  have GC := Lib.hid (show ∀ W, Ext w W → _ from fun W e => rget_calls m A cap d W (hE.ext e) (Nat.le_trans hm.2 (by decide)))
  have NC := Lib.hid (show ∀ W, Ext w W → _ from fun W e => rnames_calls m A cap d W (hE.ext e) (Nat.le_trans hm.2 (by decide)) (Sp.good_len hm) (Nat.le_trans hdl (by decide)))
  rw [hget] at GC
  rw [hnam, List.length_map] at NC
  have HIH := Lib.hid IH
  have HE := Lib.hid hE
  have KK := Lib.hid K
  have hkl : s.kids.length ≤ 200 := by
    have h1 := Sp.kids_size s.kids (ok_rise hok).2
    have h2 := Sp.sizeT_n0 s
    omega
  have HOK := Lib.hid hok
  have tok1 : True := trivial
  have tok2 : True := trivial
  clear hget hnam IH hE K hsub hok hm hdir
  go_enter Tryz.func149, Tryz.ntmps149
  go_wp2_with (have _t := tok1; ((with_reducible refine at_alloc (t := 116) rfl ?_); refine box_new rfl (cs := #[.slice none 0 0, .slice none 0 0]) (t := 116) (by first | (go_simp; done) | (go_simp; rfl)) ?_; intro g2 w2 hg2 hx2 hb2; have H2 := Lib.hid hx2; have B2 := Lib.hid (show Ext w w2 from hb2); have GG2 := Lib.hid hg2; clear tok1 _t hx2 hb2 hg2))
  refine (GC.out w2 B2.out).mono ?_
  rintro e w2' ⟨Av, cv, rfl, hv, rfl⟩
  have V2 := Lib.hid hv
  clear hv
  go_wp2_with (have _t := tok2; ((with_reducible refine at_alloc (t := 116) rfl ?_); refine box_new rfl (cs := #[.slice none 0 0, .slice none 0 0]) (t := 116) (by first | (go_simp; done) | (go_simp; rfl)) ?_; intro g4 w4 hg4 hx4 hb4; have H4 := Lib.hid hx4; have B4 := Lib.hid (show Ext w2 w4 from hb4); have GG4 := Lib.hid hg4; have k0 := (hx4.cell 0).trans rfl; have k1 := (hx4.cell 1).trans rfl; have k2 := hx4.frozen 0; have k3 := hx4.frozen 1; clear tok2 _t hx4 hb4 hg4))
  obtain ⟨w5, hw5⟩ : ∃ w5, w5 = (w4.setCell ⟨g4, 0, none⟩ (.slice Av s.leaf.length cv)).setCell ⟨g4, 1, none⟩ (.slice none 0 0) := ⟨_, rfl⟩
  have X5 := Lib.hid (show isBlk w5 g4 116 #[.slice Av s.leaf.length cv, .slice none 0 0] by rw [hw5]; exact (H4.out.put 0 _ rfl).put 1 _ rfl)
  have B5 := Lib.hid (show Ext w2 w5 by rw [hw5]; exact (B4.out.setCell GG4.out _).setCell GG4.out _)
  rw [← hw5]
  clear hw5 k0 k1 k2 k3
  refine (NC.out w5 (B2.out.trans B5.out)).mono ?_
  rintro e wn ⟨Bn, cn, rfl, hnn, hbn⟩
  have NN := Lib.hid hnn
  have BN := Lib.hid (show Ext w5 wn from hbn)
  have XN := Lib.hid (X5.out.below hbn)
  clear hnn hbn
  go_wp2
  have GN := Lib.hid (show g4 < wn.heap.size from XN.out.lt)
  have E5 := Lib.hid (show Ext w wn from B2.out.trans (B5.out.trans BN.out))
  have G4W := Lib.hid (show w.heap.size ≤ g4 from Nat.le_trans B2.out.size GG4.out)
  have hlen : (s.kids.map (·.1)).length = s.kids.length := List.length_map ..
  go_loopw [7] (fun v7 wr => ∃ (k : Nat) (v : Value), k ≤ s.kids.length ∧ v7 = .int .i64 k ∧ isBlk wr g4 116 #[.slice Av s.leaf.length cv, v] ∧ wr.ownsRow wn.heap.size 268 33 v k (kidsC ((Sp.nodeT s).2.take k)) ∧ Only g4 wn wr) (fun v7 _ => s.kids.length - (intOf v7).toNat)
  case atStart => exact ⟨0, _, Nat.zero_le _, rfl, XN.out, World.ownsRow_nil _ _ _ _, Only.refl _ _⟩
  case round =>
    obtain ⟨k, v, hk2, rfl, hx, ho, hon⟩ := hrel
    have HX := Lib.hid hx
    have HO := Lib.hid ho
    have ON := Lib.hid hon
    have EW := Lib.hid (show Ext w wr from E5.out.from' (hon.below G4W.out E5.out.size))
    have NW := Lib.hid (show Nams wr Bn (s.kids.map (·.1)) from Cells.apart NN.out hon XN.out (by
      intro z hz
      simp at hz
      rcases hz with rfl | rfl <;> rfl) (by
      intro u hu
      rw [strsC, List.getElem?_map] at hu
      cases hq : (s.kids.map (·.1))[0]? with
      | none => rw [hq] at hu; cases hu
      | some b => rw [hq] at hu; cases hu; rfl))
    clear hx ho hon
    by_cases hlt : k < s.kids.length
    · obtain ⟨nb, no, rfl, hnm⟩ := NW.out.at (by simp; omega)
      have n0 := hnm k (by simpa using hlt)
      rw [List.getElem_map] at n0
      have IK := Lib.hid (HIH.out k hlt)
      have NL := Lib.hid (show (s.kids[k]).1.length ≤ 12 from Sp.name_len (Sp.kids_names s.kids (ok_rise HOK.out).2 _ (List.getElem_mem hlt)))
      obtain ⟨x, hxk⟩ : ∃ x, x = s.kids[k] := ⟨_, rfl⟩
      rw [← hxk] at n0 IK NL
      have XK := Lib.hid hxk
      have k0 := (HX.out.cell 1).trans rfl
      have b1 : (k : Int) < (s.kids.length : Int) := by omega
      have DC := Lib.hid (down_calls d x.1 wr.drew hdl (by have := NL.out; omega))
      have tokD : True := trivial
      have tokN : True := trivial
      have tokS : True := trivial
      have X1 := Lib.hid n0
      have OKX := Lib.hid (show Sp.Ok x.2 from (by rw [hxk]; exact Sp.kid_ok s.kids _ _ (ok_rise HOK.out).2 (Sp.kid_at s.kids k hlt (ok_rise HOK.out).1)))
      have SZX := Lib.hid (show x.2.kids.length ≤ 200 from (by
        have h1 := Sp.kids_size x.2.kids (ok_rise OKX.out).2
        have h2 := Sp.sizeT_n0 x.2
        have h3 := Sp.kid_size s.kids (s.kids[k]).1 (s.kids[k]).2 (Sp.kid_at s.kids k hlt (ok_rise HOK.out).1)
        rw [← hxk] at h3
        have h4 := Sp.sizeT_n0 s
        omega))
      obtain ⟨ds, hds⟩ : ∃ ds, ds = (Sp.nsum (Sp.nodeT x.2)).map byteV := ⟨_, rfl⟩
      have DL := Lib.hid (show ds.length = 32 by rw [hds, List.length_map, Sp.nsum_len])
      have RSM := Lib.hid (show ∀ A c B c' W, Vers W A x.2.leaf → Kids W B (Sp.nodeT x.2).2 → KeysAt W 0 → Calls Tryz.prog 217 #[nodeV A x.2.leaf.length c B x.2.kids.length c'] W fun e w' => e = .returned (.agg ds.toArray) ∧ Ext W w' from fun A c B c' W hv hk hK => by
        have nl : (Sp.nodeT x.2).2.length = x.2.kids.length := by rw [nodeT_kids, List.length_map]
        have l0 : Sp.leaf x.2.leaf = 0 := by
          have := OKX.out
          cases hx2 : x.2 with
          | mk leaf kids =>
            rw [hx2] at this
            by_cases h0 : leaf = []
            · rw [h0]; rfl
            · exact this.1 h0
        have := rnsum_calls (Sp.nodeT x.2) A B c c' W (by rw [nodeT_leaf]; exact hv) hk (by rw [nodeT_leaf]; exact Nat.le_trans (Sp.leaf_ok l0).1 (by decide)) (by rw [nodeT_leaf]; exact fun v hv => ⟨Nat.le_trans (Sp.leaf_data l0 v hv) (by decide), Nat.le_trans ((Sp.leaf_fit fun _ => l0).2 v hv) (by decide)⟩) (by rw [nl]; exact Nat.le_trans SZX.out (by decide)) hK
        rw [nodeT_leaf, nl] at this
        rw [hds]
        exact this)
      obtain ⟨ka, hka⟩ : ∃ ka, ka = (kidL (x.1, Sp.nsum (Sp.nodeT x.2))).toArray := ⟨_, rfl⟩
      have BK := Lib.hid (show (Tryz.prog).built 268 [(0, .string (strOf x.1)), (1, .agg ds.toArray)] = some ka by rw [hka, hds]; exact built_kid (x.1, Sp.nsum (Sp.nodeT x.2)) (Sp.nsum_len _))
      have KA := Lib.hid hka
      have dl : ds.length = 32 := DL.out
      have hfold := kid_fold (strOf x.1) ds DL.out
      rw [show (Value.string (strOf x.1) :: ds).toArray = ka by rw [hka, hds]; rfl] at hfold
      have KS := Lib.hid (show ka.size = 33 by rw [hka, List.size_toArray, kidL_len _ (Sp.nsum_len _)])
      have ks := KS.out
      have hfold2 := kid_fold2 ka KS.out
      have KO := Lib.hid (show ∀ u ∈ ka.toList, u.oneCell' = true by
        rw [hka]
        intro u hu
        have : u ∈ kidsC [(x.1, Sp.nsum (Sp.nodeT x.2))] := by simpa [kidsC] using hu
        exact kids_one _ u this)
      have tokA : True := trivial
      clear hnm hxk hds hka
      go_wp2_with fail
      refine wp_region_seqT (fun W => Ext wr W) 12 17 (by kernel_rfl) (by kernel_rfl) (Ext.refl wr).drew ?_
      simp only [List.take_succ_cons, List.take_zero, List.drop_succ_cons, List.drop_zero]
      repeat (first
        | (refine floatT_step (fun K hK => ?_)
           apply Exists.intro
           refine ⟨Or.inl ⟨rfl, fun W hS => ?_⟩, ?_⟩
           · have hz : Ext wr W := hS; have k0 := ((HX.out.below hz).cell 1).trans rfl; have n0 := hz.cell X1.out
             go_simp
             first | done | exact rfl
           go_simp
           refine hK _ ?_
           clear hK K))
      refine floatT_nil ?_
      refine seqT_succ (n := 4) (fun Q' hQ' => ?_)
      go_wp2_with fail
      refine DC.out.mono ?_
      rintro e w8 ⟨rfl, rfl⟩
      go_wp2
      refine hQ' _ _ (Ext.refl wr).drew ?_
      clear hQ'
      refine seqT_succ (n := 3) (fun Q' hQ' => ?_)
      go_wp2_with fail
      refine (IK.out wr.drew (HE.out.ext EW.out.drew) (KK.out.ext EW.out.drew)).mono ?_
      rintro e w8 ⟨A8, c8, B8, c9, rfl, hv8, hk8, hb8⟩
      have V8 := Lib.hid hv8
      have K8 := Lib.hid hk8
      have B8' := Lib.hid (show Ext wr w8 from Below.trans (Below.refl _ _).drew hb8)
      clear hv8 hk8 hb8
      go_wp2
      refine hQ' _ _ B8'.out ?_
      clear hQ'
      refine seqT_succ (n := 2) (fun Q' hQ' => ?_)
      go_wp2_with fail
      refine (RSM.out _ _ _ _ w8 V8.out K8.out (KK.out.ext (EW.out.trans B8'.out))).mono ?_
      rintro e w9 ⟨rfl, hb9⟩
      have B9 := Lib.hid (show Ext wr w9 from B8'.out.trans hb9)
      clear hb9
      go_wp2
      refine hQ' _ _ B9.out ?_
      clear hQ'
      refine seqT_succ (n := 1) (fun Q' hQ' => ?_)
      go_wp2_with fail
      refine hQ' _ _ B9.out ?_
      clear hQ'
      refine seqT_succ (n := 0) (fun Q' hQ' => ?_)
      go_wp2_with ((with_reducible refine at_bslice rfl ?_); refine bslice_one rfl 114 268 _ rfl appKid (by decide) ka rfl KS.out ?_)
      refine hQ' _ _ (Below.alloc B9.out B9.out.size _) ?_
      clear hQ'
      refine seqT_zero ?_
      go_wp2_with (have _t := tokA; at_builtin; refine app_new appKid rfl _ _ rfl wn.heap.size v k _ rfl (own_ext HO.out B9.out) ka 268 1 rfl (by rw [KS.out]) KO.out (by decide) (by omega) (Nat.le_trans ON.out.size B9.out.size) ?_; intro g6 cap6 w10 hown10 hgr10 hb10 hbg10; have O10 := Lib.hid hown10; have B10 := Lib.hid hb10; have G10 := Lib.hid hbg10; have Z10 := Lib.hid (show isBlk w10 g4 116 #[.slice Av s.leaf.length cv, v] from (hb10.block g4 GN.out).trans (HX.out.below B9.out)); have k0 := (Z10.out.cell 1).trans rfl; have k1 := Z10.out.frozen 1; clear tokA _t hown10 hgr10 hb10 hbg10)
      refine ⟨rfl, ?_⟩
      go_wp2
      have hkl2 : k < (Sp.nodeT s).2.length := by rw [nodeT_kids, List.length_map]; exact hlt
      have e1 : kidsC ((Sp.nodeT s).2.take (k + 1)) = kidsC ((Sp.nodeT s).2.take k) ++ ka.toList := by
        rw [List.take_succ_eq_append_getElem hkl2, kidsC_snoc, KA.out]
        congr 1
        simp only [nodeT_kids, List.getElem_map, ← XK.out]
      have on10 : Only g4 wn w10 := (ON.out.then_ext (below_lower B9.out ON.out.size)).then_ext B10.out
      refine ⟨⟨k + 1, .slice (some ⟨g6, 0, none⟩) (k + 1) cap6, by omega, by go_num, Z10.out.put 1 _ rfl, ?_, on10.trans (Only.set _ _ _ _)⟩, by simp [intOf]; omega⟩
      rw [e1]
      exact own_far O10.out (fun e => by have e2 : g6 = g4 := Option.some.inj e
                                         have := G10.out; have := GN.out; omega) _
    · obtain rfl : k = s.kids.length := by omega
      obtain ⟨Bk, c3, rfl, hK⟩ := own_read HO.out
      have hne : g2 ≠ g4 := by have := H2.out.lt; have := GG4.out; omega
      have hZn : isBlk wn g2 116 #[.slice none 0 0, .slice none 0 0] := H2.out.below (B5.out.trans BN.out)
      have HZ := Lib.hid (show isBlk wr g2 116 #[.slice none 0 0, .slice none 0 0] from ON.out.blk hZn hne)
      have k0 := (HX.out.cell 0).trans rfl
      have k1 := (HX.out.cell 1).trans rfl
      have k2 := (HZ.out.cell 0).trans rfl
      have k3 := (HZ.out.cell 1).trans rfl
      have k4 := HZ.out.frozen 0
      have k5 := HZ.out.frozen 1
      go_wp2
      have hz := (HZ.out.put 0 (.slice Av s.leaf.length cv) rfl).put 1 (.slice Bk s.kids.length c3) rfl
      refine bodyPost_ret (results_cell_row rfl _ _ g2 116 #[.slice Av s.leaf.length cv, .slice Bk s.kids.length c3] (0, 0) _ rfl hz Tryz.underlying116 rfl (by kernel_rfl)) rfl ?_
      have e1 := (Only.set g2 0 (.slice Av s.leaf.length cv) wr).trans (Only.set g2 1 (.slice Bk s.kids.length c3) _)
      have hs : ∀ z ∈ (#[.slice none 0 0, .slice none 0 0] : Array Value).toList, isSl z = true := by decide
      have hs4 : ∀ z ∈ (#[.slice Av s.leaf.length cv, .slice none 0 0] : Array Value).toList, isSl z = true := by
        intro z hz
        simp at hz
        rcases hz with rfl | rfl <;> rfl
      have nl : (Sp.nodeT s).2.length = s.kids.length := by rw [nodeT_kids, List.length_map]
      rw [List.take_of_length_le (by omega)] at hK
      have KK2 : Kids wr Bk (Sp.nodeT s).2 := ⟨hK, fun y hy => by
        rw [nodeT_kids] at hy
        obtain ⟨u, hu, rfl⟩ := List.mem_map.1 hy
        exact ⟨Sp.nsum_len _, Nat.le_trans (Sp.name_len (Sp.kids_names s.kids (ok_rise HOK.out).2 u hu)) (by decide)⟩⟩
      have VR : Vers wr Av s.leaf := (V2.out.ext (B5.out.trans BN.out)).apart ON.out XN.out hs4
      exact ⟨Av, cv, Bk, c3, rfl, VR.apart e1 HZ.out hs, KK2.apart e1 HZ.out hs, EW.out.from' (e1.below GG2.out EW.out.size)⟩
end Go.Proofs.YtmlfnidckfeebaaGreatDoor
namespace Go.Proofs.YtmlfnidckfeebaaGreatDoor
open Go.RowKit Go.Shelf
theorem dir_len {d : Sp.Bs} (h : Sp.Dir d) : d.length ≤ 51 := by
  rcases h with rfl | h
  · exact Nat.zero_le _
  · exact (Sp.check_parts h).2.1
theorem rnode_calls (m : List Sp.DE) (hm : Sp.GoodM m) (A : Option Addr) (cap : Nat) : ∀ (f : Nat) (d : Sp.Bs) (s : Sp.T) (w : World), 5 ≤ (Sp.parts d).length + f → Sp.Dir d → Sp.Ok s → Sp.sizeT s ≤ 200 → Sp.subs (Sp.toP m) (Sp.parts d) = Sp.entries s → EntsAt w A m → KeysAt w 0 →
    Calls Tryz.prog 149 #[.slice A m.length cap, .string (strOf d)] w fun e w' => ∃ A2 c2 B2 c3, e = .returned (nodeV A2 s.leaf.length c2 B2 s.kids.length c3) ∧ Vers w' A2 s.leaf ∧ Kids w' B2 (Sp.nodeT s).2 ∧ Ext w w'
  | 0, d, s, w, hf, _, _, _, _, _, _ => by have := Sp.parts_len d; omega
  | f + 1, d, s, w, hf, hd, hok, hsz, hsub, hE, K =>
    rnode_step m hm A cap d hd (Nat.le_trans (dir_len hd) (by decide)) s hok hsz hsub (fun i h w2 hE2 K2 => by
      obtain ⟨k1, k2, k3, k4⟩ := Sp.kid_dir hm hd hok hsub i h
      refine rnode_calls m hm A cap f (Sp.down d (s.kids[i]).1) (s.kids[i]).2 w2 ?_ k1 k4 ?_ k3 hE2 K2
      · rw [k2, List.length_append]
        show 5 ≤ (Sp.parts d).length + 1 + f
        omega
      · have h1 := Sp.kid_size s.kids (s.kids[i]).1 (s.kids[i]).2 (Sp.kid_at s.kids i h (ok_rise hok).1)
        have h2 := Sp.sizeT_n0 s
        omega) w hE K
end Go.Proofs.YtmlfnidckfeebaaGreatDoor
namespace Go.Proofs.YtmlfnidckfeebaaGreatDoor
open Go.RowKit
section
variable {P : Program} {ops : Array Oper} {T : World → Prop}
theorem floatT_no' {a : Act} {o : Oper} {K : Act → Prop} (hw : Region.wanted o (yielded ops a.tmps) = false) (h : K (a.put o.dst undef)) : ∃ v, YieldsT P ops T o v a ∧ K (a.put o.dst v) := ⟨undef, .inr ⟨hw, rfl⟩, h⟩
end
namespace Sp
theorem findT_small : ∀ (d : List Bs) (t s : T), findT t d = some s → sizeT s ≤ sizeT t
  | [], t, s, e => by cases e; exact Nat.le_refl _
  | n :: d, t, s, e => by
    rw [findT] at e
    cases hk : kid t.kids n with
    | none => rw [hk] at e; cases e
    | some u =>
      rw [hk] at e
      have h1 := kid_size t.kids n u hk
      have h2 := sizeT_n0 t
      have h3 := findT_small d u s e
      omega
theorem find_both {o : Option T} {m : List DE} (he : toP m = entriesO o) (ho : GoodO o) (hm : GoodM m) {d : Bs} {s : T} (h : findS (o.getD .nil) d = some s) :
    Dir d ∧ Ok s ∧ sizeT s ≤ 128 ∧ subs (toP m) (parts d) = entries s := by
  have hf : Dir d ∧ findT (o.getD .nil) (parts d) = some s := by
    unfold findS at h
    by_cases h0 : d = []
    · rw [if_pos h0] at h
      subst h0
      exact ⟨.inl rfl, h⟩
    · rw [if_neg h0] at h
      by_cases h1 : parts d = []
      · rw [if_pos h1] at h; cases h
      · rw [if_neg h1] at h
        exact ⟨.inr (check_of_parts h1), h⟩
  obtain ⟨h1, h2⟩ := at_both he ho hm d hf.1
  refine ⟨hf.1, (h2 s hf.2).1, ?_, by rw [h1, hf.2]; rfl⟩
  have h3 := findT_small _ _ _ hf.2
  rw [getD_size] at h3
  exact Nat.le_trans h3 ho.2
end Sp
end Go.Proofs.YtmlfnidckfeebaaGreatDoor
namespace Go.Proofs.YtmlfnidckfeebaaGreatDoor
open Go.RowKit
namespace Sp
theorem told_eq {o : Option T} {m : List DE} (he : toP m = entriesO o) : told o = m := by
  unfold told
  rw [← he]
  unfold toP
  rw [List.map_map]
  conv => rhs; rw [← List.map_id m]
  refine List.map_congr_left fun e _ => ?_
  show (joinP (split e.1), e.2) = e
  rw [join_split]
theorem told_short {o : Option T} {m : List DE} (he : toP m = entriesO o) (hm : GoodM m) : ∀ x ∈ entriesO o, x.1.length ≤ 60 := fun x hx => by
  rw [← he] at hx
  obtain ⟨e, h1, rfl⟩ := List.mem_map.1 hx
  exact Nat.le_trans (check_parts (hm.1 e h1)).2.2.1 (by decide)
theorem told_leaf {o : Option T} {m : List DE} (he : toP m = entriesO o) (ho : GoodO o) : ∀ e ∈ m, e.2.length ≤ 1000000 := fun e h => by
  have : (split e.1, e.2) ∈ entriesO o := by rw [← he]; exact List.mem_map_of_mem h
  exact (told_fit ho _ this).1
end Sp
end Go.Proofs.YtmlfnidckfeebaaGreatDoor
namespace Go.Proofs.YtmlfnidckfeebaaGreatDoor
open Go.RowKit Go.Shelf
attribute [local go_sem] yUpon strOf_toList
namespace Sp
end Sp
theorem rpparts_calls (s : Sp.Bs) (w : World) (hs : s.length ≤ 1000000) : Calls Tryz.prog 80 #[.string (strOf s)] w fun e w' => ∃ A c, e = .returned (.slice A (Sp.parts s).length c) ∧ Nams w' A (Sp.parts s) ∧ Ext w w' :=
  (rparts_calls (strOf s) w (by rw [strOf_size]; omega)).mono (by
    intro e w1 ht
    obtain ⟨A, c, h1, _, h2, h3⟩ := ht.nams
    rw [strOf_data] at h1 h2
    exact ⟨A, c, h1, h2, h3⟩)
end Go.Proofs.YtmlfnidckfeebaaGreatDoor
