/- Deltas: a directory that is opened, and what is opened below it. Deltas: what is opened, and what differs. Watching: what changed between two trees. -/
import Derived.Test.YtmlfnidckfeebaaGreatDoorRF024
import Derived.Test.YtmlfnidckfeebaaGreatDoorRF025
namespace Go.Proofs.YtmlfnidckfeebaaGreatDoor
open Go.RowKit Go.Shelf
attribute [local go_sem] yUpon strOf_toList
theorem _root_.Go.RowKit.Below.trans' {B : Nat} {a b c : World} (h : Below B a b) (k : Below B b c) : Below B a c := h.trans k
namespace Sp
theorem node_few {o : Option T} (h : GoodO o) {d : Bs} (hd : Dir d) : (nodeS (o.getD .nil) d).2.length ≤ 128 := by
  unfold nodeS
  cases hf : findS (o.getD .nil) d with
  | none => exact Nat.zero_le _
  | some s =>
    have hf2 := hf
    rw [find_dir hd] at hf2
    have hok := (findT_subs (parts d) (o.getD .nil) (getD_ok h.1)).2 s hf2
    have h1 := findT_small _ _ _ hf2
    have h2 : sizeT (o.getD .nil) ≤ 128 := by rw [getD_size]; exact h.2
    have h3 := kids_size s.kids (ok_rise hok).2
    have h4 := sizeT_n0 s
    show (nodeT s).2.length ≤ 128
    rw [nodeT_kids, List.length_map]
    omega
theorem node_leafs {o : Option T} (h : GoodO o) {d : Bs} (hd : Dir d) : (nodeS (o.getD .nil) d).1.length ≤ 1000000 := by
  unfold nodeS
  cases hf : findS (o.getD .nil) d with
  | none => exact Nat.zero_le _
  | some s =>
    have hf2 := hf
    rw [find_dir hd] at hf2
    have hok := (findT_subs (parts d) (o.getD .nil) (getD_ok h.1)).2 s hf2
    show (nodeT s).1.length ≤ _
    rw [nodeT_leaf]
    have h1 := findT_small _ _ _ hf2
    have h2 : sizeT (o.getD .nil) ≤ 128 := by rw [getD_size]; exact h.2
    exact Nat.le_trans (ok_fit hok (by omega)).1 (by decide)
theorem openT_len {oa ob : Option T} {ma mb : List DE} (PA : Both oa ma) (PB : Both ob mb) : ∀ (f : Nat) (d : Bs), Dir d → (openT (oa.getD .nil) (ob.getD .nil) f d).length ≤ 257 ^ f
  | 0, d, _ => Nat.zero_le _
  | f + 1, d, hd => by
    rw [openT]
    have hx := node_few PA.go hd
    have hy := node_few PB.go hd
    have hsub : ∀ k ∈ (kids2 (nodeS (oa.getD .nil) d).2 (nodeS (ob.getD .nil) d).2).filter differ2, (openT (oa.getD .nil) (ob.getD .nil) f (down d k.1)).length ≤ 257 ^ f := fun k hk =>
      openT_len PA PB f _ (kid_two PA PB hd (List.mem_filter.1 hk).1).1
    have hlen : (kids2 (nodeS (oa.getD .nil) d).2 (nodeS (ob.getD .nil) d).2).length ≤ 256 := by
      have hk : ∀ x y : List Kid, (kids2 x y).length ≤ x.length + y.length := by
        intro x y
        induction x, y using kids2.induct with
        | case1 => rw [kids2]; exact Nat.le_refl _
        | case2 a r ih => rw [kids2]; simp at ih ⊢; omega
        | case3 b s ih => rw [kids2]; simp at ih ⊢; omega
        | case4 a r b s h ih => rw [kids2, if_pos h]; simp at ih ⊢; omega
        | case5 a r b s h h2 ih => rw [kids2, if_neg h, if_pos h2]; simp at ih ⊢; omega
        | case6 a r b s h h2 ih => rw [kids2, if_neg h, if_neg h2]; simp at ih ⊢; omega
      have := hk (nodeS (oa.getD .nil) d).2 (nodeS (ob.getD .nil) d).2
      omega
    have hf := Nat.le_trans (List.length_filter_le differ2 (kids2 (nodeS (oa.getD .nil) d).2 (nodeS (ob.getD .nil) d).2)) hlen
    obtain ⟨K, hK⟩ : ∃ K, K = (kids2 (nodeS (oa.getD .nil) d).2 (nodeS (ob.getD .nil) d).2).filter differ2 := ⟨_, rfl⟩
    rw [← hK] at hsub hf ⊢
    have key : ∀ K : List Two, (∀ k ∈ K, (openT (oa.getD .nil) (ob.getD .nil) f (down d k.1)).length ≤ 257 ^ f) → (K.flatMap fun k => openT (oa.getD .nil) (ob.getD .nil) f (down d k.1)).length ≤ K.length * 257 ^ f := by
      intro K
      induction K with
      | nil => intro _; exact Nat.zero_le _
      | cons k r ih =>
        intro h
        have h1 := h k (List.mem_cons_self ..)
        have h2 := ih fun x hx => h x (List.mem_cons_of_mem _ hx)
        rw [List.flatMap_cons, List.length_append, List.length_cons, Nat.succ_mul]
        omega
    have h1 := key K hsub
    have h2 : K.length * 257 ^ f ≤ 256 * 257 ^ f := Nat.mul_le_mul_right _ hf
    have h3 : 1 ≤ 257 ^ f := Nat.one_le_pow _ _ (by decide)
    rw [List.length_cons, Nat.pow_succ]
    omega
theorem tell_len {tell : Bs → List Bs} (ht : ∀ d, (tell d).length ≤ 1) : ∀ l : List Bs, (l.flatMap tell).length ≤ l.length
  | [] => Nat.le_refl _
  | d :: r => by
    have h1 := ht d
    have h2 := tell_len ht r
    rw [List.flatMap_cons, List.length_append, List.length_cons]
    omega
theorem part_len {F : Two → List Bs} {n : Nat} : ∀ (l : List Two), (∀ k ∈ l, differ2 k = true → (F k).length ≤ n) → ∀ i, ((l.take i).filter differ2 |>.flatMap F).length ≤ i * n
  | [], _, i => by simp
  | k :: r, h, 0 => by simp
  | k :: r, h, i + 1 => by
    have ih := part_len r (fun x hx => h x (List.mem_cons_of_mem _ hx)) i
    have hk := h k (List.mem_cons_self ..)
    rw [List.take_succ_cons, Nat.succ_mul]
    cases hd : differ2 k with
    | true =>
      rw [List.filter_cons_of_pos hd, List.flatMap_cons, List.length_append]
      have := hk hd
      omega
    | false =>
      rw [List.filter_cons_of_neg (by rw [hd]; decide)]
      omega
theorem part_succ {F : Two → List Bs} (l : List Two) (i : Nat) (h : i < l.length) : ((l.take (i + 1)).filter differ2).flatMap F = ((l.take i).filter differ2).flatMap F ++ if differ2 l[i] = true then F l[i] else [] := by
  rw [filter_take differ2 l i h, List.flatMap_append]
  split <;> simp
end Sp
def two0 : Array Value := (twoL (([] : Sp.Bs), false, false, Sp.z32, Sp.z32)).toArray
theorem two_all (k : Sp.Two) : (twoL k).toArray.all (·.oneCell') = true := by
  apply all_oneCell_toArray
  intro u hu
  exact twoL_one k u (by simpa using hu)
theorem own_capN {w : World} {base n c size : Nat} {e : TypeId} {A : Option Addr} {xs : List Value} (h : w.ownsRow base e size (.slice A n c) n xs) : n ≤ c := by
  rcases h.2 with ⟨h, _⟩ | ⟨g, cap', cur, h, _, _, hn, _⟩
  · simp only [Value.slice.injEq] at h; omega
  · simp only [Value.slice.injEq] at h; omega
set_option maxRecDepth 100000 in
set_option maxHeartbeats 8000000 in
theorem popen_step (k : Nat) (lb : Array Value) (eg : ∀ args (w : World), (callFunc k args).run Tryz.prog w = .ok (.enter k args) w)
    (oa ob : Option Sp.T) (ma mb : List Sp.DE) (PA : Sp.Both oa ma) (PB : Sp.Both ob mb) (a b : Value) (w0 : World) (ha : TreeAt w0 a oa) (hb : TreeAt w0 b ob) (K : KeysAt w0 2) (M : MaxAt w0) (gp : Nat)
    (J : List Sp.Bs → World → Prop) (hJ : ∀ L W W', J L W → KB noT w0.heap.size W W' → J L W') (tell : Sp.Bs → List Sp.Bs) (ht : ∀ d, (tell d).length ≤ 1)
    (hcb : ∀ L d A c B c' A2 c2 B2 c2' W, Sp.Dir d → L.length ≤ 1121154893057 → Ext w0 W → J L W → Vers W A (Sp.nodeS (oa.getD .nil) d).1 → Vers W A2 (Sp.nodeS (ob.getD .nil) d).1 →
      Calls Tryz.prog k (#[.string (strOf d), nodeV A (Sp.nodeS (oa.getD .nil) d).1.length c B (Sp.nodeS (oa.getD .nil) d).2.length c', nodeV A2 (Sp.nodeS (ob.getD .nil) d).1.length c2 B2 (Sp.nodeS (ob.getD .nil) d).2.length c2'] ++ lb) W fun e W' => e = .returned (.tuple #[]) ∧ J (L ++ tell d) W' ∧ KB outT w0.heap.size W W')
    (f : Nat) (d : Sp.Bs) (hd : Sp.Dir d)
    (IH : ∀ k' ∈ Sp.kids2 (Sp.nodeS (oa.getD .nil) d).2 (Sp.nodeS (ob.getD .nil) d).2, Sp.differ2 k' = true → ∀ L W, Ext w0 W → isBlk W gp 197 #[a, b, .func (.func k) #[] lb] → J L W → L.length + 257 ^ f ≤ 1121154893057 →
      Calls Tryz.prog 140 #[.pointer (some ⟨gp, 0, none⟩), .string (strOf (Sp.down d k'.1))] W fun e W' => e = .returned (.tuple #[]) ∧ J (L ++ (Sp.openT (oa.getD .nil) (ob.getD .nil) f (Sp.down d k'.1)).flatMap tell) W' ∧ KB outT w0.heap.size W W')
    (L : List Sp.Bs) (W : World) (hE : Ext w0 W) (hp : isBlk W gp 197 #[a, b, .func (.func k) #[] lb]) (hL : J L W) (hl : L.length + 257 ^ (f + 1) ≤ 1121154893057) :
    Calls Tryz.prog 140 #[.pointer (some ⟨gp, 0, none⟩), .string (strOf d)] W fun e W' => e = .returned (.tuple #[]) ∧ J (L ++ (Sp.openT (oa.getD .nil) (ob.getD .nil) (f + 1) d).flatMap tell) W' ∧ KB outT w0.heap.size W W' := by
  have dl51 := dir_len hd
  have TA := Lib.hid fun W (e : Ext w0 W) => tnodeO_calls oa a d W (ha.ext e) PA.go (K.ext e) (max_kept M e)
  have TB := Lib.hid fun W (e : Ext w0 W) => tnodeO_calls ob b d W (hb.ext e) PB.go (K.ext e) (max_kept M e)
  have CB := Lib.hid fun A c B c' A2 c2 B2 c2' W => hcb L d A c B c' A2 c2 B2 c2' W hd (Nat.le_trans (Nat.le_add_right _ _) hl)
  have xf := Sp.node_few PA.go hd
  have yf := Sp.node_few PB.go hd
  have SUB := Lib.hid fun k' (hk : k' ∈ Sp.kids2 (Sp.nodeS (oa.getD .nil) d).2 (Sp.nodeS (ob.getD .nil) d).2) => Sp.kid_two PA PB hd hk
  have FL := Lib.hid (show ∀ k' ∈ Sp.kids2 (Sp.nodeS (oa.getD .nil) d).2 (Sp.nodeS (ob.getD .nil) d).2, Sp.differ2 k' = true → ((Sp.openT (oa.getD .nil) (ob.getD .nil) f (Sp.down d k'.1)).flatMap tell).length ≤ 257 ^ f from fun k' hk _ => Nat.le_trans (Sp.tell_len ht _) (Sp.openT_len PA PB f _ (Sp.kid_two PA PB hd hk).1))
  have OT := Lib.hid (show (Sp.openT (oa.getD .nil) (ob.getD .nil) (f + 1) d).flatMap tell = tell d ++ ((Sp.kids2 (Sp.nodeS (oa.getD .nil) d).2 (Sp.nodeS (ob.getD .nil) d).2).filter Sp.differ2).flatMap fun k' => (Sp.openT (oa.getD .nil) (ob.getD .nil) f (Sp.down d k'.1)).flatMap tell by
    rw [Sp.openT, List.flatMap_cons, List.flatMap_assoc])
  have HIH := Lib.hid IH
  have HJ := Lib.hid hJ
  have HL := Lib.hid hL
  have HP := Lib.hid hp
  have HE := Lib.hid hE
  obtain ⟨F, hF⟩ : ∃ F : Sp.Two → List Sp.Bs, F = fun k' => (Sp.openT (oa.getD .nil) (ob.getD .nil) f (Sp.down d k'.1)).flatMap tell := ⟨_, rfl⟩
  have FE := Lib.hid fun k' => show (Sp.openT (oa.getD .nil) (ob.getD .nil) f (Sp.down d k'.1)).flatMap tell = F k' by rw [hF]
  rw [← hF] at OT
  have FL2 := Lib.hid (show ∀ k' ∈ Sp.kids2 (Sp.nodeS (oa.getD .nil) d).2 (Sp.nodeS (ob.getD .nil) d).2, Sp.differ2 k' = true → (F k').length ≤ 257 ^ f from fun k' hk h => by rw [← FE.out k']; exact FL.out k' hk h)
  have HIH2 := Lib.hid (show ∀ k' ∈ Sp.kids2 (Sp.nodeS (oa.getD .nil) d).2 (Sp.nodeS (ob.getD .nil) d).2, Sp.differ2 k' = true → ∀ L W, Ext w0 W → isBlk W gp 197 #[a, b, .func (.func k) #[] lb] → J L W → L.length + 257 ^ f ≤ 1121154893057 →
      Calls Tryz.prog 140 #[.pointer (some ⟨gp, 0, none⟩), .string (strOf (Sp.down d k'.1))] W fun e W' => e = .returned (.tuple #[]) ∧ J (L ++ F k') W' ∧ KB outT w0.heap.size W W' from fun k' hk h => by rw [← FE.out k']; exact HIH.out k' hk h)
  obtain ⟨R, hR⟩ : ∃ R, R = (Sp.openT (oa.getD .nil) (ob.getD .nil) (f + 1) d).flatMap tell := ⟨_, rfl⟩
  rw [← hR] at OT ⊢
  obtain ⟨x, hx⟩ : ∃ x, x = Sp.nodeS (oa.getD .nil) d := ⟨_, rfl⟩
  obtain ⟨y, hy⟩ : ∃ y, y = Sp.nodeS (ob.getD .nil) d := ⟨_, rfl⟩
  rw [← hx] at TA CB xf SUB OT FL2 HIH2
  rw [← hy] at TB CB yf SUB OT FL2 HIH2
  have p1 : 1 ≤ 257 ^ f := Nat.one_le_pow _ _ (by decide)
  have p2 : 257 ^ (f + 1) = 257 * 257 ^ f := by rw [Nat.pow_succ]; omega
  have td := ht d
  rw [p2] at hl
  obtain ⟨n, hn⟩ : ∃ n, n = 257 ^ f := ⟨_, rfl⟩
  rw [← hn] at p1 hl FL2 HIH2
  obtain ⟨pa, rfl⟩ := tree_ptr ha
  obtain ⟨pb, rfl⟩ := tree_ptr hb
  clear PA PB ha hb K M hJ hcb IH hL hp hE hF hR hx hy hn FL FE HIH p2 ht
  have tok1 : True := trivial
  have tok2 : True := trivial
  have q0 := (HP.out.cell 0).trans rfl
  go_enter Tryz.func140, Tryz.ntmps140
  go_wp2_with fail
  refine (TA.out W HE.out).mono ?_
  rintro e w1 ⟨A1, c1, B1, c1', rfl, hv1, hk1, hb1, ho1⟩
  have V1 := Lib.hid hv1
  have O1 := Lib.hid ho1
  have E1 := Lib.hid hb1
  have K1 := Lib.hid hk1.2
  clear hv1 hk1 hb1 ho1 TA q0
  go_upto_region 1 with (have _t := tok1; ((with_reducible refine at_alloc (t := 116) rfl ?_); refine box_new rfl (cs := #[.slice none 0 0, .slice none 0 0]) (t := 116) (by first | (go_simp; done) | (go_simp; rfl)) ?_; intro g2 w2 hg2 hx2 hb2; have H2 := Lib.hid hx2; have B2 := Lib.hid (show Ext w1 w2 from hb2); have GG2 := Lib.hid hg2; have k0 := hx2.frozen 0; have k1 := hx2.frozen 1; have k2 := (hx2.cell 0).trans rfl; have k3 := (hx2.cell 1).trans rfl; clear tok1 _t hx2 hb2 hg2))
  obtain ⟨w3, hw3⟩ : ∃ w3, w3 = (w2.setCell ⟨g2, 0, none⟩ (.slice A1 x.1.length c1)).setCell ⟨g2, 1, none⟩ (.slice B1 x.2.length c1') := ⟨_, rfl⟩
  have X3 := Lib.hid (show isBlk w3 g2 116 #[.slice A1 x.1.length c1, .slice B1 x.2.length c1'] by rw [hw3]; exact (H2.out.put 0 _ rfl).put 1 _ rfl)
  have E3 := Lib.hid (show Ext w1 w3 by rw [hw3]; exact (B2.out.setCell GG2.out _).setCell GG2.out _)
  rw [← hw3]
  clear hw3 k0 k1 k2 k3
  have F3 := Lib.hid (E1.out.trans E3.out)
  have q1 := ((HP.out.below F3.out).cell 1).trans rfl
  go_wp2_with fail
  refine (TB.out w3 (HE.out.trans F3.out)).mono ?_
  rintro e w4 ⟨A4, c4, B4, c4', rfl, hv4, hk4, hb4, ho4⟩
  have V4 := Lib.hid hv4
  have O4 := Lib.hid ho4
  have E4 := Lib.hid hb4
  have K4 := Lib.hid hk4.2
  clear hv4 hk4 hb4 ho4 TB q1
  go_upto_region 2 with (have _t := tok2; ((with_reducible refine at_alloc (t := 116) rfl ?_); refine box_new rfl (cs := #[.slice none 0 0, .slice none 0 0]) (t := 116) (by first | (go_simp; done) | (go_simp; rfl)) ?_; intro g5 w5 hg5 hx5 hb5; have H5 := Lib.hid hx5; have B5 := Lib.hid (show Ext w4 w5 from hb5); have GG5 := Lib.hid hg5; have k0 := hx5.frozen 0; have k1 := hx5.frozen 1; have k2 := (hx5.cell 0).trans rfl; have k3 := (hx5.cell 1).trans rfl; clear tok2 _t hx5 hb5 hg5))
  obtain ⟨w6, hw6⟩ : ∃ w6, w6 = (w5.setCell ⟨g5, 0, none⟩ (.slice A4 y.1.length c4)).setCell ⟨g5, 1, none⟩ (.slice B4 y.2.length c4') := ⟨_, rfl⟩
  have X6 := Lib.hid (show isBlk w6 g5 116 #[.slice A4 y.1.length c4, .slice B4 y.2.length c4'] by rw [hw6]; exact (H5.out.put 0 _ rfl).put 1 _ rfl)
  have E6 := Lib.hid (show Ext w4 w6 by rw [hw6]; exact (B5.out.setCell GG5.out _).setCell GG5.out _)
  rw [← hw6]
  clear hw6 k0 k1 k2 k3
  have F6 := Lib.hid (F3.out.trans (E4.out.trans E6.out))
  have E36 := Lib.hid (E4.out.trans E6.out)
  have X36 := Lib.hid (X3.out.below E36.out)
  have HP6 := Lib.hid (HP.out.below F6.out)
  go_wp2_with fail
  refine wp_region_det_tail (fun W' => Ext w6 W') 7 (by kernel_rfl) (by kernel_rfl) (Ext.refl w6).drew ?_
  simp only [List.take_succ_cons, List.take_zero, List.drop_succ_cons, List.drop_zero]
  repeat (first
    | (refine det_step (fun K hK => ?_)
       apply Exists.intro
       refine ⟨Or.inl ⟨rfl, fun W hS => ?_⟩, ?_⟩
       · have hz : Ext w6 W := hS; have q2 := ((HP6.out.below hz).cell 2).trans rfl; have a0 := ((X36.out.below hz).cell 0).trans rfl; have a1 := ((X36.out.below hz).cell 1).trans rfl; have b0 := ((X6.out.below hz).cell 0).trans rfl; have b1 := ((X6.out.below hz).cell 1).trans rfl
         go_simp
         first
         | exact rfl
         | exact ⟨rfl, hS⟩
         | (fail)
       go_simp
       refine hK _ ?_
       clear hK K)
    | (refine det_step (fun K hK => ?_); refine det_no' rfl ?_; go_simp; refine hK _ ?_; clear hK K))
  refine det_nil ?_
  intro w7 hS
  have E7 := Lib.hid (show Ext w6 w7 from hS)
  clear hS
  go_wp2_with fail
  refine (CB.out A1 c1 B1 c1' A4 c4 B4 c4' w7 (HE.out.trans (F6.out.trans E7.out)) (HJ.out _ _ _ HL.out (KB.ext HE.out.size (F6.out.trans E7.out))) (V1.out.ext (E3.out.trans (E36.out.trans E7.out))) (V4.out.ext (E6.out.trans E7.out))).mono ?_
  rintro e w8 ⟨rfl, hJ8, hk8⟩
  have J8 := Lib.hid hJ8
  have K8 := Lib.hid ((KB.ext HE.out.size (F6.out.trans E7.out)).trans hk8)
  have X8 := Lib.hid (show isBlk w8 g2 116 #[.slice A1 x.1.length c1, .slice B1 x.2.length c1'] from hk8.row _ _ _ _ (X36.out.below E7.out) (by decide))
  have Y8 := Lib.hid (show isBlk w8 g5 116 #[.slice A4 y.1.length c4, .slice B4 y.2.length c4'] from hk8.row _ _ _ _ (X6.out.below E7.out) (by decide))
  have OX := own_keep (T := outT) (by decide) (own_ext O1.out (E3.out.trans (E36.out.trans E7.out))) hk8
  have OY := own_keep (T := outT) (by decide) (own_ext O4.out (E6.out.trans E7.out)) hk8
  have P8 := Lib.hid (show isBlk w8 gp 197 #[.pointer pa, .pointer pb, .func (.func k) #[] lb] from hk8.row _ _ _ _ (HP6.out.below E7.out) (by decide))
  have KX := Lib.hid (show Kids w8 B1 x.2 from ⟨by obtain ⟨A, cap, h1, h2⟩ := own_read OX; cases h1; exact h2, K1.out⟩)
  have KY := Lib.hid (show Kids w8 B4 y.2 from ⟨by obtain ⟨A, cap, h1, h2⟩ := own_read OY; cases h1; exact h2, K4.out⟩)
  have cx := own_capN OX
  have cy := own_capN OY
  have T2 := Lib.hid (kids2_ok x.2 y.2 K1.out K4.out)
  have f0 := (X8.out.cell 1).trans rfl
  have f1 := (Y8.out.cell 1).trans rfl
  have EW := Lib.hid (show Ext w0 w8 from (HE.out.trans (F6.out.trans E7.out)).trans' hk8.below)
  clear hJ8 hk8 OX OY CB HL HP HP6 V1 V4 O1 O4 E1 E3 E4 E6 E36 F3 F6 B2 B5 GG2 GG5 H2 H5 X3 X6 X36 HE
  go_wp2_with fail
  refine (kids2_calls x.2 y.2 B1 B4 c1' c4' w8 KX.out KY.out cx cy (by omega) (by omega)).mono ?_
  rintro e w9 ⟨v9, rfl, hO9, hb9⟩
  have O9 := Lib.hid hO9
  obtain ⟨A9, c9, rfl, _⟩ := own_read hO9
  obtain ⟨l, hl9⟩ : ∃ l, l = Sp.kids2 x.2 y.2 := ⟨_, rfl⟩
  rw [← hl9] at O9 SUB OT FL2 HIH2 T2 ⊢
  have lw : l.length ≤ 256 := by have := T2.out.2; omega
  have E9 := Lib.hid hb9
  have K9 := Lib.hid (K8.out.trans (KB.ext EW.out.size hb9))
  have J9 := Lib.hid (HJ.out _ _ _ J8.out (KB.ext EW.out.size hb9))
  have P9 := Lib.hid (P8.out.below hb9)
  have EW9 := Lib.hid (EW.out.trans hb9)
  have PL := Lib.hid fun i => Sp.part_len (F := F) (n := n) l FL2.out i
  have PS := Lib.hid fun i h => Sp.part_succ (F := F) l i h
  clear hO9 hb9 hl9 KX KY cx cy X8 Y8 f0 f1 xf yf J8 K8 P8 EW K1 K4
  go_wp2
  go_loopw [42] (fun v42 wr => ∃ i : Nat, i ≤ l.length ∧ v42 = .int .i64 i ∧ J (L ++ tell d ++ ((l.take i).filter Sp.differ2).flatMap F) wr ∧ KB outT w0.heap.size w9 wr) (fun v42 _ => l.length - (intOf v42).toNat)
  case atStart => exact ⟨0, Nat.zero_le _, rfl, by simpa using J9.out, KB.refl _ _ _⟩
  case round =>
    obtain ⟨i, hi, rfl, hj, hk⟩ := hrel
    have JR := Lib.hid hj
    have KR := Lib.hid hk
    clear hj hk
    by_cases hlt : i < l.length
    · obtain ⟨g, o, hA9, hat⟩ := two_at (by obtain ⟨A, cap, h1, h2⟩ := own_read (own_keep (T := outT) (by decide) O9.out KR.out); cases h1; exact h2) T2.out.1 (by omega)
      subst hA9
      have hm := List.getElem_mem hlt
      have tk := T2.out.1 _ hm
      have S1 := SUB.out _ hm
      have G1 := Lib.hid (HIH2.out _ hm)
      have Q1 := Lib.hid (PS.out i hlt)
      have q2 := PL.out i
      have HR := Lib.hid (hat i hlt)
      obtain ⟨kd, hkd⟩ : ∃ kd, kd = l[i] := ⟨_, rfl⟩
      rw [← hkd] at tk S1 G1 Q1 HR
      have TK := Lib.hid tk
      have dn12 := S1.2.2.2.1
      have KL := Lib.hid (twoL_len kd tk)
      have ka : ((twoL kd).toArray).size = 67 := by simp [KL.out]
      have HKA := Lib.hid ka
      have k0 : ((twoL kd).toArray)[0]? = some (.string (strOf kd.1)) := rfl
      have K0 := Lib.hid k0
      obtain ⟨cs, hcs⟩ : ∃ cs, cs = twoL kd := ⟨_, rfl⟩
      have CS := Lib.hid hcs
      have CL := Lib.hid (show cs.length = 67 by rw [hcs]; exact KL.out)
      have CA := Lib.hid (show cs.toArray.size = 67 by rw [List.size_toArray, CL.out])
      have CO := Lib.hid (show cs.toArray.all (·.oneCell') = true by rw [hcs]; exact two_all kd)
      have C0 := Lib.hid (show cs.toArray[0]? = some (.string (strOf kd.1)) by rw [hcs]; exact K0.out)
      have TC := Lib.hid (two_calls kd tk)
      rw [← hcs] at HR TC
      have ER := Lib.hid (show Ext w0 wr from EW9.out.trans' KR.out.below)
      have PR := Lib.hid (show isBlk wr gp 197 #[.pointer pa, .pointer pb, .func (.func k) #[] lb] from KR.out.row _ _ _ _ P9.out (by decide))
      obtain ⟨pt, hpt⟩ : ∃ pt, pt = ((l.take i).filter Sp.differ2).flatMap F := ⟨_, rfl⟩
      rw [← hpt] at JR Q1 q2
      have b1 : (i : Int) < (l.length : Int) := by omega
      have hn1 : L.length + (1 + i * n + n) ≤ 1121154893057 := by
        have h1 : i * n ≤ 255 * n := Nat.mul_le_mul_right _ (by omega)
        omega
      have NB := Lib.hid (show (L ++ tell d ++ pt).length + n ≤ 1121154893057 by
        rw [List.length_append, List.length_append]
        omega)
      obtain ⟨b, hb⟩ : ∃ b, b = Sp.differ2 kd := ⟨_, rfl⟩
      rw [← hb] at TC Q1 G1
      clear hat hm tk S1 hkd ka k0 hcs hpt q2 hn1 hb
      have tok2 : True := trivial
      have tok3 : True := trivial
      have tok4 : True := trivial
      have tok5 : True := trivial
      go_wp2_with (first
        | (have _t2 := tok2; (with_reducible refine at_load (t := 263) rfl ?_); refine wpList_load_mid rfl _ _ rfl g (o + i * 67) rfl cs _ HR.out Tryz.underlying263 rfl (by rw [CL.out]; kernel_rfl) ?_; clear tok2 _t2)
        | (have _t3 := tok3; ((with_reducible refine at_alloc (t := 263) rfl ?_); refine box_new rfl (cs := two0) (t := 263) (by first | (go_simp; done) | (go_simp; rfl)) ?_; intro g4 w4 hg4 hx4 hb4; have H4 := Lib.hid hx4; have B4' := Lib.hid hb4; have GG4 := Lib.hid hg4; clear tok3 _t3 hx4 hb4 hg4))
        | (have _t4 := tok4; ((with_reducible refine at_store (t := 263) rfl ?_); refine wpList_store_row rfl _ _ _ rfl g4 cs.toArray rfl rfl 263 _ H4.out (by rw [CA.out]; kernel_rfl) (by rw [CA.out]; rfl) CO.out ?_; obtain ⟨w5, hw5⟩ : ∃ w5, w5 = w4.setRow g4 cs.toArray := ⟨_, rfl⟩; rw [← hw5]; have B5 := Lib.hid (show Ext wr w5 by rw [hw5]; exact below_setRow B4'.out GG4.out _); have X5 := Lib.hid (show isBlk w5 g4 263 cs.toArray by rw [hw5]; exact setRow_heap _ _ _ _ _ _ H4.out); have R5 := Lib.hid (show w5.rangeAt g4 0 cs from fun j v hj => by rw [Nat.zero_add, X5.out.cell j]; simpa using hj); clear hw5 tok4 _t4))
        | (have _t5 := tok5; (with_reducible refine at_load (t := 263) rfl ?_); refine wpList_load_mid rfl _ _ rfl g4 0 rfl cs _ R5.out Tryz.underlying263 rfl (by rw [CL.out]; kernel_rfl) ?_; clear tok5 _t5))
      refine (TC.out w5).mono ?_
      rintro e w6 ⟨rfl, hb6⟩
      have B6 := Lib.hid (B5.out.trans hb6)
      have X6 := Lib.hid (X5.out.below hb6)
      have JM := Lib.hid (HJ.out _ _ _ JR.out (KB.ext ER.out.size B6.out))
      have KM := Lib.hid (KR.out.trans (KB.ext ER.out.size B6.out))
      clear hb6 TC
      cases b with
      | false =>
        have Q2 := Lib.hid (show ((l.take (i + 1)).filter Sp.differ2).flatMap F = pt by rw [Q1.out, if_neg (by decide), List.append_nil])
        clear Q1 G1
        go_wp2
        go_roundw
        case rel => exact ⟨i + 1, by omega, by go_num, by rw [Q2.out]; exact JM.out, KM.out⟩
        case measure => simp [intOf]; omega
      | true =>
        have Q2 := Lib.hid (show ((l.take (i + 1)).filter Sp.differ2).flatMap F = pt ++ F kd by rw [Q1.out, if_pos rfl])
        have f0 := (X6.out.cell 0).trans C0.out
        clear Q1
        go_wp2_with fail
        refine (ddown_calls d kd.1 w6 (by omega) (by omega)).mono ?_
        rintro e w7 ⟨rfl, rfl⟩
        clear f0
        go_wp2_with fail
        refine (G1.out (by first | rfl | trivial) _ w6 (ER.out.trans B6.out) (PR.out.below B6.out) JM.out NB.out).mono ?_
        rintro e w7 ⟨rfl, hj7, hk7⟩
        have J7 := Lib.hid hj7
        have K7 := Lib.hid (KM.out.trans hk7)
        clear hj7 hk7
        go_wp2
        go_roundw
        case rel => exact ⟨i + 1, by omega, by go_num, by rw [Q2.out, ← List.append_assoc]; exact J7.out, K7.out⟩
        case measure => simp [intOf]; omega
    · obtain rfl : i = l.length := by omega
      rw [List.take_length] at JR
      go_wp2
      go_end0
      refine ⟨rfl, ?_, K9.out.trans KR.out⟩
      rw [OT.out, ← List.append_assoc]
      exact JR.out
theorem popen_calls (k : Nat) (lb : Array Value) (eg : ∀ args (w : World), (callFunc k args).run Tryz.prog w = .ok (.enter k args) w)
    (oa ob : Option Sp.T) (ma mb : List Sp.DE) (PA : Sp.Both oa ma) (PB : Sp.Both ob mb) (a b : Value) (w0 : World) (ha : TreeAt w0 a oa) (hb : TreeAt w0 b ob) (K : KeysAt w0 2) (M : MaxAt w0) (gp : Nat)
    (J : List Sp.Bs → World → Prop) (hJ : ∀ L W W', J L W → KB noT w0.heap.size W W' → J L W') (tell : Sp.Bs → List Sp.Bs) (ht : ∀ d, (tell d).length ≤ 1)
    (hcb : ∀ L d A c B c' A2 c2 B2 c2' W, Sp.Dir d → L.length ≤ 1121154893057 → Ext w0 W → J L W → Vers W A (Sp.nodeS (oa.getD .nil) d).1 → Vers W A2 (Sp.nodeS (ob.getD .nil) d).1 →
      Calls Tryz.prog k (#[.string (strOf d), nodeV A (Sp.nodeS (oa.getD .nil) d).1.length c B (Sp.nodeS (oa.getD .nil) d).2.length c', nodeV A2 (Sp.nodeS (ob.getD .nil) d).1.length c2 B2 (Sp.nodeS (ob.getD .nil) d).2.length c2'] ++ lb) W fun e W' => e = .returned (.tuple #[]) ∧ J (L ++ tell d) W' ∧ KB outT w0.heap.size W W') :
    ∀ (f : Nat) (d : Sp.Bs), Sp.Dir d → 5 ≤ (Sp.parts d).length + f → ∀ (L : List Sp.Bs) (W : World), Ext w0 W → isBlk W gp 197 #[a, b, .func (.func k) #[] lb] → J L W → L.length + 257 ^ f ≤ 1121154893057 →
      Calls Tryz.prog 140 #[.pointer (some ⟨gp, 0, none⟩), .string (strOf d)] W fun e W' => e = .returned (.tuple #[]) ∧ J (L ++ (Sp.openT (oa.getD .nil) (ob.getD .nil) f d).flatMap tell) W' ∧ KB outT w0.heap.size W W'
  | 0, d, _, h5, _, _, _, _, _, _ => by have := Sp.parts_len d; omega
  | f + 1, d, hd, h5, L, W, hE, hp, hL, hl =>
    popen_step k lb eg oa ob ma mb PA PB a b w0 ha hb K M gp J hJ tell ht hcb f d hd (fun k' hk' _ L2 W2 hE2 hp2 hL2 hl2 => by
      obtain ⟨d1, d2, _⟩ := Sp.kid_two PA PB hd hk'
      refine popen_calls k lb eg oa ob ma mb PA PB a b w0 ha hb K M gp J hJ tell ht hcb f (Sp.down d k'.1) d1 ?_ L2 W2 hE2 hp2 hL2 hl2
      rw [d2, List.length_append, List.length_singleton]
      omega) L W hE hp hL hl
set_option maxRecDepth 100000 in
set_option maxHeartbeats 4000000 in
theorem dopened_calls (k : Nat) (lb : Array Value) (eg : ∀ args (w : World), (callFunc k args).run Tryz.prog w = .ok (.enter k args) w)
    (oa ob : Option Sp.T) (ma mb : List Sp.DE) (PA : Sp.Both oa ma) (PB : Sp.Both ob mb) (a b : Value) (w0 : World) (ha : TreeAt w0 a oa) (hb : TreeAt w0 b ob) (K : KeysAt w0 2) (M : MaxAt w0)
    (J : List Sp.Bs → World → Prop) (hJ : ∀ L W W', J L W → KB noT w0.heap.size W W' → J L W') (tell : Sp.Bs → List Sp.Bs) (ht : ∀ d, (tell d).length ≤ 1)
    (hcb : ∀ L d A c B c' A2 c2 B2 c2' W, Sp.Dir d → L.length ≤ 1121154893057 → Ext w0 W → J L W → Vers W A (Sp.nodeS (oa.getD .nil) d).1 → Vers W A2 (Sp.nodeS (ob.getD .nil) d).1 →
      Calls Tryz.prog k (#[.string (strOf d), nodeV A (Sp.nodeS (oa.getD .nil) d).1.length c B (Sp.nodeS (oa.getD .nil) d).2.length c', nodeV A2 (Sp.nodeS (ob.getD .nil) d).1.length c2 B2 (Sp.nodeS (ob.getD .nil) d).2.length c2'] ++ lb) W fun e W' => e = .returned (.tuple #[]) ∧ J (L ++ tell d) W' ∧ KB outT w0.heap.size W W')
    (W : World) (hE : Ext w0 W) (hL : J [] W) :
    Calls Tryz.prog 73 #[a, b, .func (.func k) #[] lb] W fun e W' => e = .returned (.tuple #[]) ∧ J ((Sp.openedT (oa.getD .nil) (ob.getD .nil)).flatMap tell) W' ∧ KB outT w0.heap.size W W' := by
  have RA := Lib.hid (troot_calls oa a W (ha.ext hE) (K.ext hE))
  have RB := Lib.hid fun W2 (e : Ext W W2) => troot_calls ob b W2 (hb.ext (hE.trans e)) (K.ext (hE.trans e))
  have PO := Lib.hid fun gp W2 (e : Ext W W2) hp => popen_calls k lb eg oa ob ma mb PA PB a b w0 ha hb K M gp J hJ tell ht hcb 5 [] (.inl rfl) (by decide) [] W2 (hE.trans e) hp (hJ _ _ _ hL (KB.ext hE.size e)) (by decide)
  have OT := Lib.hid (show Sp.openedT (oa.getD .nil) (ob.getD .nil) = if Sp.nsum (Sp.nodeT (oa.getD .nil)) = Sp.nsum (Sp.nodeT (ob.getD .nil)) then [] else Sp.openT (oa.getD .nil) (ob.getD .nil) 5 [] from rfl)
  have HJ := Lib.hid hJ
  have HL := Lib.hid hL
  have HE := Lib.hid hE
  obtain ⟨pa, rfl⟩ := tree_ptr ha
  obtain ⟨pb, rfl⟩ := tree_ptr hb
  obtain ⟨R, hR⟩ : ∃ R, R = Sp.openedT (oa.getD .nil) (ob.getD .nil) := ⟨_, rfl⟩
  rw [← hR] at OT ⊢
  obtain ⟨r1, hr1⟩ : ∃ r1, r1 = Sp.nsum (Sp.nodeT (oa.getD .nil)) := ⟨_, rfl⟩
  obtain ⟨r2, hr2⟩ : ∃ r2, r2 = Sp.nsum (Sp.nodeT (ob.getD .nil)) := ⟨_, rfl⟩
  have hqr := fun W => dig_eqv r1 r2 (by rw [hr1]; exact Sp.nsum_len _) (by rw [hr2]; exact Sp.nsum_len _) W
  have hg := dig_guard
  rw [← hr1] at RA OT
  rw [← hr2] at RB OT
  obtain ⟨O, hO⟩ : ∃ O, O = Sp.openT (oa.getD .nil) (ob.getD .nil) 5 [] := ⟨_, rfl⟩
  rw [← hO] at OT PO
  clear PA PB ha hb K M hJ hcb hR hr1 hr2 hL hE hO ht
  go_enter Tryz.func73, Tryz.ntmps73
  go_wp2_with fail
  refine RA.out.mono ?_
  rintro e w1 ⟨rfl, hb1⟩
  have E1 := Lib.hid hb1
  clear hb1 RA
  go_wp2_with fail
  refine (RB.out w1 E1.out).mono ?_
  rintro e w2 ⟨rfl, hb2⟩
  have E2 := Lib.hid (E1.out.trans hb2)
  clear hb2 RB
  by_cases hrr : r1 = r2
  · have hq := hqr
    rw [show (r1 == r2) = true by rw [hrr]; exact beq_self_eq_true _] at hq
    have OT2 := Lib.hid (show R = [] by rw [OT.out, if_pos hrr])
    clear hrr hqr OT
    go_wp2
    refine bodyPost_ret (results_none rfl _ _ _) rfl ?_
    exact ⟨rfl, by rw [OT2.out]; exact HJ.out _ _ _ HL.out (KB.ext HE.out.size E2.out), KB.ext HE.out.size E2.out⟩
  · have hq := hqr
    rw [show (r1 == r2) = false by rw [beq_eq_false_iff_ne]; exact hrr] at hq
    have OT2 := Lib.hid (show R = O by rw [OT.out, if_neg hrr])
    clear hrr hqr OT
    have tok1 : True := trivial
    go_wp2_with (have _t := tok1; ((with_reducible refine at_box (t := 197) rfl ?_); refine box_new rfl (cs := #[.pointer pa, .pointer pb, .func (.func k) #[] lb]) (t := 197) (by first | (go_simp; done) | (go_simp; rfl)) ?_; intro g3 w3 hg3 hx3 hb3; have X3 := Lib.hid hx3; have B3 := Lib.hid (show Ext w2 w3 from hb3); clear tok1 _t hx3 hb3 hg3))
    refine (PO.out g3 w3 (E2.out.trans B3.out) X3.out).mono ?_
    rintro e w4 ⟨rfl, hj4, hk4⟩
    have J4 := Lib.hid hj4
    have K4 := Lib.hid hk4
    clear hj4 hk4 PO
    go_wp2
    go_end0
    exact ⟨rfl, by rw [OT2.out]; exact J4.out, (KB.ext HE.out.size (E2.out.trans B3.out)).trans K4.out⟩
theorem outvar_new (w : World) : OutVar w.heap.size w.heap.size [] (w.alloc (.cells #[.slice none 0 0] 32)) := ⟨Nat.le_refl _, _, box_at w _ _, World.ownsRow_nil _ _ _ _⟩
set_option maxRecDepth 100000 in
set_option maxHeartbeats 4000000 in
theorem Differ_calls (oa ob : Option Sp.T) (ma mb : List Sp.DE) (PA : Sp.Both oa ma) (PB : Sp.Both ob mb) (a b : Value) (w : World) (ha : TreeAt w a oa) (hb : TreeAt w b ob) (K : KeysAt w 2) (M : MaxAt w) :
    Calls Tryz.prog 22 #[a, b] w fun e w' => ∃ v, e = .returned v ∧ w'.ownsRow w.heap.size 9 1 v (Sp.differT (oa.getD .nil) (ob.getD .nil)).length (strsC (Sp.differT (oa.getD .nil) (ob.getD .nil))) ∧ Ext w w' := by
  have DO := Lib.hid fun W (e : Ext w W) (h : OutVar w.heap.size w.heap.size [] W) => dopened_calls 76 #[.pointer (some ⟨w.heap.size, 0, none⟩)] (enters_of Tryz.func76 (by kernel_rfl) rfl) oa ob ma mb PA PB a b w ha hb K M (OutVar w.heap.size w.heap.size) (fun L W W' h k => h.keep k) (fun d => if (!decide ((Sp.nodeS (oa.getD .nil) d).1 = (Sp.nodeS (ob.getD .nil) d).1)) = true then [d] else []) (fun _ => by split <;> simp)
    (fun L d A c B c' A2 c2 B2 c2' W hd hl hE hj hv hv2 => told_diff w.heap.size w.heap.size L d _ _ A A2 B B2 c _ c' c2 _ c2' W hj hE.size hl hv hv2 (Sp.node_leafs PA.go hd)) W e h
  obtain ⟨pa, rfl⟩ := tree_ptr ha
  obtain ⟨pb, rfl⟩ := tree_ptr hb
  have FM : (Sp.openedT (oa.getD .nil) (ob.getD .nil)).flatMap (fun d => if (!decide ((Sp.nodeS (oa.getD .nil) d).1 = (Sp.nodeS (ob.getD .nil) d).1)) = true then [d] else []) = Sp.differT (oa.getD .nil) (ob.getD .nil) := by
    unfold Sp.differT Sp.leafdiff
    generalize Sp.openedT (oa.getD .nil) (ob.getD .nil) = l
    induction l with
    | nil => rfl
    | cons x r ih =>
      rw [List.flatMap_cons, ih]
      by_cases h : (Sp.nodeS (oa.getD .nil) x).1 = (Sp.nodeS (ob.getD .nil) x).1 <;> simp [h]
  rw [FM] at DO
  obtain ⟨R, hR⟩ : ∃ R, R = Sp.differT (oa.getD .nil) (ob.getD .nil) := ⟨_, rfl⟩
  rw [← hR] at DO ⊢
  have hmf : ∀ (fn : Fn) (first cap : Array Value) (w : World), (Instr.makeFunc fn first cap).run Tryz.prog w = .ok (.func fn first cap) w := fun _ _ _ _ => rfl
  clear PA PB ha hb K M FM hR
  go_enter Tryz.func22, Tryz.ntmps22
  go_upto_region 2 with fail
  obtain ⟨w1, hw1⟩ : ∃ w1, w1 = w.alloc (.cells #[.slice none 0 0] 32) := ⟨_, rfl⟩
  have J1 := Lib.hid (show OutVar w.heap.size w.heap.size [] w1 by rw [hw1]; exact outvar_new w)
  have E1 := Lib.hid (show Ext w w1 by rw [hw1]; exact Ext.alloc _ _)
  rw [← hw1]
  clear hw1
  go_wp2_with fail
  refine (DO.out w1 E1.out J1.out).mono ?_
  rintro e w2 ⟨rfl, ⟨_, v, hx, ho⟩, hk⟩
  have X2 := Lib.hid hx
  have O2 := Lib.hid ho
  have E2 := Lib.hid (show Ext w w2 from E1.out.trans' hk.below)
  have f0 := (X2.out.cell 0).trans rfl
  clear hx ho hk DO
  go_wp2
  go_ret
  exact ⟨v, rfl, O2.out, E2.out⟩
def chgsC : List Sp.Chg → List Value
  | [] => []
  | c :: r => (chgC c).toList ++ chgsC r
theorem chgsC_append (l m : List Sp.Chg) : chgsC (l ++ m) = chgsC l ++ chgsC m := by
  induction l with
  | nil => rfl
  | cons x r ih => rw [List.cons_append, chgsC, ih, chgsC, List.append_assoc]
theorem chgsC_len : ∀ l : List Sp.Chg, (chgsC l).length = l.length * 4
  | [] => rfl
  | c :: r => by
    have := chgsC_len r
    show ((chgsC r).length + 1 + 1 + 1 + 1) = (r.length + 1) * 4
    omega
theorem chgsC_get : ∀ (l : List Sp.Chg) (k : Nat) (h : k < l.length) (j : Nat) (v : Value), (chgC l[k]).toList[j]? = some v → (chgsC l)[k * 4 + j]? = some v
  | c :: r, 0, _, j, v, hv => by
    have hv2 : (chgC c).toList[j]? = some v := hv
    rw [Nat.zero_mul, Nat.zero_add]
    show ((chgC c).toList ++ chgsC r)[j]? = some v
    rw [List.getElem?_append_left (List.getElem?_eq_some_iff.1 hv2).1]
    exact hv2
  | c :: r, k + 1, h, j, v, hv => by
    have ih := chgsC_get r k (by simpa using h) j v hv
    have l4 : (chgC c).toList.length = 4 := rfl
    show ((chgC c).toList ++ chgsC r)[(k + 1) * 4 + j]? = some v
    rw [List.getElem?_append_right (by omega), l4, show (k + 1) * 4 + j - 4 = k * 4 + j by omega]
    exact ih
theorem chg_at {w : World} {A : Option Addr} {l : List Sp.Chg} (h : Cells w A (chgsC l)) (hn : 0 < l.length) : ∃ g o, A = some ⟨g, o, none⟩ ∧ ∀ k (hk : k < l.length), w.cell? ⟨g, o + k * 4, none⟩ = some (.string (strOf l[k].path)) ∧ w.cell? ⟨g, o + k * 4 + 1, none⟩ = some (.int .i64 l[k].kind) ∧ w.cell? ⟨g, o + k * 4 + 2, none⟩ = some (.string (strOf l[k].was)) ∧ w.cell? ⟨g, o + k * 4 + 3, none⟩ = some (.string (strOf l[k].now)) := by
  obtain ⟨g, o, hA, hc⟩ := h (by intro e; have := chgsC_len l; rw [e] at this; simp at this; omega)
  refine ⟨g, o, hA, fun k hk => ⟨?_, ?_, ?_, ?_⟩⟩
  · have := hc _ _ (chgsC_get l k hk 0 _ rfl); simpa using this
  · rw [Nat.add_assoc]; exact hc _ _ (chgsC_get l k hk 1 _ rfl)
  · rw [Nat.add_assoc]; exact hc _ _ (chgsC_get l k hk 2 _ rfl)
  · rw [Nat.add_assoc]; exact hc _ _ (chgsC_get l k hk 3 _ rfl)
theorem chg_one (c : Sp.Chg) : ∀ u ∈ (chgC c).toList, u.oneCell' = true := by
  intro u hu
  simp at hu
  rcases hu with rfl | rfl | rfl | rfl <;> rfl
theorem appChg : AppStat Tryz.prog 74 88 4 56 := by
  refine ⟨Tryz.underlying74, by decide, by decide, ?_⟩
  obtain ⟨i0, hi, hz0, hz1, hz2⟩ := info_parts (show (Tryz.prog.info? 88).map (fun i => (i.zero, i.size, i.bytes)) = some (some (.agg #[.string ⟨#[]⟩, .int .i64 0, .string ⟨#[]⟩, .string ⟨#[]⟩]), 4, 56) by kernel_rfl)
  exact ⟨i0, _, hi, hz0, hz1, hz2, by kernel_rfl⟩
namespace Sp
theorem between_take (D : List Bs) (f g : Bs → List Ver) (k : Nat) (h : k < D.length) : betweenL (D.take (k + 1)) f g = betweenL (D.take k) f g ++ if kindS (f D[k]) (g D[k]) = 0 then [] else [⟨D[k], kindS (f D[k]) (g D[k]), data0 (f D[k]), data0 (g D[k])⟩] := by
  unfold betweenL
  rw [List.take_succ_eq_append_getElem h, List.filterMap_append]
  congr 1
  unfold changeS
  by_cases hk : kindS (f D[k]) (g D[k]) = 0 <;> simp [hk]
theorem between_len (D : List Bs) (f g : Bs → List Ver) : (betweenL D f g).length ≤ D.length := List.length_filterMap_le _ _
theorem rget_short {o : Option T} {m : List DE} (P : Both o m) (p : Bs) : (rget m p).length ≤ 1000 := by
  rcases rget_mem m p with h | ⟨e, he, h⟩
  · rw [h]; exact Nat.zero_le _
  · rw [h]
    have h0 := (told_leaf0 P e he).1
    unfold leaf at h0
    split at h0
    · cases h0
    · omega
end Sp
set_option maxRecDepth 100000 in
set_option maxHeartbeats 8000000 in
theorem wbetween_calls (oa ob : Option Sp.T) (ma mb : List Sp.DE) (PA : Sp.Both oa ma) (PB : Sp.Both ob mb) (a b : Value) (w : World) (ha : TreeAt w a oa) (hb : TreeAt w b ob) (K : KeysAt w 2) (M : MaxAt w) :
    Calls Tryz.prog 51 #[a, b] w fun e w' => ∃ v, e = .returned v ∧ w'.ownsRow w.heap.size 88 4 v (Sp.betweenS (oa.getD .nil) (ob.getD .nil)).length (chgsC (Sp.betweenS (oa.getD .nil) (ob.getD .nil))) ∧ Ext w w' := by
  obtain ⟨pa, rfl⟩ := tree_ptr ha
  obtain ⟨pb, rfl⟩ := tree_ptr hb
  have DD := Lib.hid (Differ_calls oa ob ma mb PA PB (.pointer pa) (.pointer pb) w ha hb K M)
  have GA := Lib.hid (show ∀ d, Sp.check d = 0 → ∀ W, Ext w W → Calls Tryz.prog 29 #[.pointer pa, .string (strOf d)] W fun e w' => ∃ A c, e = .returned (.slice A (Sp.rget ma d).length c) ∧ Vers w' A (Sp.rget ma d) ∧ Ext W w' from fun d hd W e => by
    rw [(Sp.names_node PA (.inr hd)).2]
    exact tget_calls oa (.pointer pa) d W (ha.ext e) PA.go (K.ext e) (max_kept M e))
  have GB := Lib.hid (show ∀ d, Sp.check d = 0 → ∀ W, Ext w W → Calls Tryz.prog 29 #[.pointer pb, .string (strOf d)] W fun e w' => ∃ A c, e = .returned (.slice A (Sp.rget mb d).length c) ∧ Vers w' A (Sp.rget mb d) ∧ Ext W w' from fun d hd W e => by
    rw [(Sp.names_node PB (.inr hd)).2]
    exact tget_calls ob (.pointer pb) d W (hb.ext e) PB.go (K.ext e) (max_kept M e))
  have DM := Lib.hid (show ∀ p ∈ Sp.differT (oa.getD .nil) (ob.getD .nil), Sp.check p = 0 from fun p hp => (Sp.differ_dir PA PB p hp).1)
  have LA := Lib.hid fun p => Sp.rget_short PA p
  have LB := Lib.hid fun p => Sp.rget_short PB p
  have DL : (Sp.differT (oa.getD .nil) (ob.getD .nil)).length ≤ 1121154893057 := by
    have OL := Sp.openS_len oa ob (ma ++ mb) (by have := PA.gm.2; have := PB.gm.2; rw [List.length_append]; omega) 5 []
    have p5' : (257 : Nat) ^ 5 = 1121154893057 := by decide
    rw [p5', Sp.opened_both PA PB] at OL
    exact Nat.le_trans (List.length_filter_le _ _) OL
  have BB := Lib.hid (Sp.between_both PA PB)
  obtain ⟨R, hR⟩ : ∃ R, R = Sp.betweenS (oa.getD .nil) (ob.getD .nil) := ⟨_, rfl⟩
  rw [← hR] at BB ⊢
  obtain ⟨D, hD⟩ : ∃ D, D = Sp.differT (oa.getD .nil) (ob.getD .nil) := ⟨_, rfl⟩
  rw [← hD] at DD DM DL BB
  have BT := Lib.hid fun k h => Sp.between_take D (Sp.rget ma) (Sp.rget mb) k h
  have BN := Lib.hid (show ∀ k, k ≤ D.length → (Sp.betweenL (D.take k) (Sp.rget ma) (Sp.rget mb)).length ≤ k from fun k h => Nat.le_trans (Sp.between_len _ _ _) (by rw [List.length_take]; omega))
  clear PA PB ha hb K M hR hD
  go_enter Tryz.func51, Tryz.ntmps51
  go_wp2_with fail
  refine DD.out.mono ?_
  rintro e w1 ⟨v1, rfl, hO1, hb1⟩
  obtain ⟨A1, c1, rfl, hc1⟩ := own_read hO1
  have N1 := Lib.hid (show Nams w1 A1 D from hc1)
  have E1 := Lib.hid hb1
  clear hO1 hc1 hb1 DD
  go_wp2
  go_loopw [5, 14] (fun v5 v14 wr => ∃ k : Nat, k ≤ D.length ∧ v14 = .int .i64 k ∧ wr.ownsRow w1.heap.size 88 4 v5 (Sp.betweenL (D.take k) (Sp.rget ma) (Sp.rget mb)).length (chgsC (Sp.betweenL (D.take k) (Sp.rget ma) (Sp.rget mb))) ∧ Ext w1 wr) (fun _ v14 _ => D.length - (intOf v14).toNat)
  case atStart => exact ⟨0, Nat.zero_le _, rfl, World.ownsRow_nil _ _ _ _, Ext.refl _⟩
  case round =>
    obtain ⟨k, hk, rfl, hO, hb⟩ := hrel
    have HX := Lib.hid hb
    have HO := Lib.hid hO
    clear hO hb
    by_cases hlt : k < D.length
    · obtain ⟨g, o, rfl, hat⟩ := N1.out.at (by omega)
      have C0 := Lib.hid (hat k hlt)
      have XP := DM.out _ (List.getElem_mem hlt)
      have ST := Lib.hid (BT.out k hlt)
      have nl := BN.out k hk
      obtain ⟨x, hx⟩ : ∃ x, x = D[k] := ⟨_, rfl⟩
      rw [← hx] at C0 XP ST
      have GX := Lib.hid fun W e => GA.out x XP W e
      have GY := Lib.hid fun W e => GB.out x XP W e
      have lx := LA.out x
      have ly := LB.out x
      obtain ⟨gx, hgx⟩ : ∃ gx, gx = Sp.rget ma x := ⟨_, rfl⟩
      obtain ⟨gy, hgy⟩ : ∃ gy, gy = Sp.rget mb x := ⟨_, rfl⟩
      rw [← hgx] at GX ST lx
      rw [← hgy] at GY ST ly
      obtain ⟨q, hq⟩ : ∃ q, q = Sp.betweenL (D.take k) (Sp.rget ma) (Sp.rget mb) := ⟨_, rfl⟩
      rw [← hq] at HO ST nl
      have kb : (k : Int) < (D.length : Int) := by omega
      have EX := Lib.hid (E1.out.trans HX.out)
      have f0 := HX.out.cell C0.out
      clear hat hx hgx hgy hq C0
      go_wp2_with fail
      refine (GX.out _ EX.out).mono ?_
      rintro e w2 ⟨A2, c2, rfl, hv2, hb2⟩
      have V2 := Lib.hid hv2
      have E2 := Lib.hid hb2
      clear hv2 hb2 f0 GX
      go_wp2_with fail
      refine (GY.out w2 (EX.out.trans E2.out)).mono ?_
      rintro e w3 ⟨A3, c3, rfl, hv3, hb3⟩
      have V3 := Lib.hid hv3
      have V23 := Lib.hid (V2.out.ext hb3)
      have E3 := Lib.hid (E2.out.trans hb3)
      clear hv3 hb3 GY V2
      go_wp2_with fail
      refine (wchange_calls x gx gy A2 A3 c2 c3 w3 V23.out V3.out lx ly).mono ?_
      rintro e w4 ⟨rfl, hb4⟩
      have E4 := Lib.hid (E3.out.trans hb4)
      obtain ⟨kk, hkk⟩ : ∃ kk, kk = Sp.kindS gx gy := ⟨_, rfl⟩
      rw [← hkk] at ST ⊢
      obtain ⟨ch, hch⟩ : ∃ ch : Sp.Chg, ch = ⟨x, kk, Sp.data0 gx, Sp.data0 gy⟩ := ⟨_, rfl⟩
      rw [← hch] at ST ⊢
      obtain ⟨bk, hbk⟩ : ∃ bk, bk = decide (kk ≠ 0) := ⟨_, rfl⟩
      rw [← hbk]
      have BK := Lib.hid hbk
      have tok1 : True := trivial
      clear hb4 hkk hch hbk V23 V3
      go_upto_region 6 with (have _t := tok1; ((with_reducible refine at_alloc (t := 88) rfl ?_); refine box_new rfl (cs := #[.string ⟨#[]⟩, .int .i64 0, .string ⟨#[]⟩, .string ⟨#[]⟩]) (t := 88) (by first | (go_simp; done) | (go_simp; rfl)) ?_; intro g5 w5 hg5 hx5 hb5; have H5 := Lib.hid hx5; have B5 := Lib.hid (show Ext w4 w5 from hb5); have GG5 := Lib.hid hg5; have k0 := hx5.frozen 0; have k1 := hx5.frozen 1; have k2 := hx5.frozen 2; have k3 := hx5.frozen 3; have e0 := (hx5.cell 0).trans rfl; have e1 := (hx5.cell 1).trans rfl; have e2 := (hx5.cell 2).trans rfl; have e3 := (hx5.cell 3).trans rfl; clear tok1 _t hx5 hb5 hg5))
      obtain ⟨w6, hw6⟩ : ∃ w6, w6 = (((w5.setCell ⟨g5, 0, none⟩ (.string (strOf ch.path))).setCell ⟨g5, 1, none⟩ (.int .i64 ch.kind)).setCell ⟨g5, 2, none⟩ (.string (strOf ch.was))).setCell ⟨g5, 3, none⟩ (.string (strOf ch.now)) := ⟨_, rfl⟩
      have X6 := Lib.hid (show isBlk w6 g5 88 #[.string (strOf ch.path), .int .i64 ch.kind, .string (strOf ch.was), .string (strOf ch.now)] by rw [hw6]; exact (((H5.out.put 0 _ rfl).put 1 _ rfl).put 2 _ rfl).put 3 _ rfl)
      have E6 := Lib.hid (show Ext w4 w6 by rw [hw6]; exact (((B5.out.setCell GG5.out _).setCell GG5.out _).setCell GG5.out _).setCell GG5.out _)
      rw [← hw6]
      clear hw6 k0 k1 k2 k3 e0 e1 e2 e3
      have F6 := Lib.hid (E4.out.trans E6.out)
      have O6 := Lib.hid (own_ext HO.out F6.out)
      have EW := Lib.hid (HX.out.trans F6.out)
      cases bk with
      | false =>
        have ST2 := Lib.hid (show Sp.betweenL (D.take (k + 1)) (Sp.rget ma) (Sp.rget mb) = q by
          have : kk = 0 := by have := BK.out; by_cases h : kk = 0; exact h; (rw [decide_eq_true h] at this; cases this)
          rw [ST.out, if_pos this, List.append_nil])
        clear ST
        go_wp2
        go_roundw
        case rel => exact ⟨k + 1, by omega, by go_num, by rw [ST2.out]; exact O6.out, EW.out⟩
        case measure => simp [intOf]; omega
      | true =>
        have ST2 := Lib.hid (show Sp.betweenL (D.take (k + 1)) (Sp.rget ma) (Sp.rget mb) = q ++ [ch] by
          have : ¬ kk = 0 := of_decide_eq_true BK.out.symm
          rw [ST.out, if_neg this])
        have f0 := (X6.out.cell 0).trans rfl
        have f1 := (X6.out.cell 1).trans rfl
        have f2 := (X6.out.cell 2).trans rfl
        have f3 := (X6.out.cell 3).trans rfl
        have tokA : True := trivial
        have tokS : True := trivial
        clear ST
        go_wp2_with (first
          | (have _t := tokS; (with_reducible refine at_bslice rfl ?_); refine bslice_one rfl 74 88 _ rfl appChg (by decide) (chgC ch) rfl rfl ?_; clear tokS _t)
          | (have _t := tokA; at_builtin; refine app_new appChg rfl _ _ rfl w1.heap.size _ q.length _ rfl O6.out (chgC ch) 88 1 rfl rfl (chg_one ch) (by decide) (by omega) EW.out.size ?_; intro g9 cap9 w9 hown9 hgr9 hb9 hbg9; have O9 := Lib.hid hown9; have B9 := Lib.hid (Below.trans EW.out hb9); clear tokA _t hown9 hgr9 hb9 hbg9))
        go_roundw
        case rel =>
          refine ⟨k + 1, by omega, by go_num, ?_, B9.out⟩
          rw [ST2.out, List.length_append, chgsC_append, show chgsC [ch] = (chgC ch).toList from List.append_nil _]
          exact O9.out
        case measure => simp [intOf]; omega
    · obtain rfl : k = D.length := by omega
      rw [List.take_length, BB.out] at HO
      go_wp2
      go_ret
      exact ⟨_, rfl, own_lowT HO.out E1.out.size, E1.out.trans HX.out⟩
end Go.Proofs.YtmlfnidckfeebaaGreatDoor
