/- Deltas: what is opened is told by a callback. Deltas: a directory that is opened, and what is opened below it. -/
import Derived.Test.YtmlfnidckfeebaaGreatDoorQQ022
namespace Go.Proofs.YtmlfnidckfeebaaGreatDoor
open Go.RowKit Go.Shelf
attribute [local go_sem] yUpon strOf_toList
abbrev outT : TypeId → Prop := fun t => t = 9 ∨ t = 32
def OutVar (B gb : Nat) (L : List Sp.Bs) (W : World) : Prop := B ≤ gb ∧ ∃ v, isBlk W gb 32 #[v] ∧ W.ownsRow B 9 1 v L.length (strsC L)
theorem OutVar.keep {B gb b : Nat} {L : List Sp.Bs} {W W' : World} (h : OutVar B gb L W) (k : KB noT b W W') : OutVar B gb L W' := by
  obtain ⟨h1, v, h2, h3⟩ := h
  exact ⟨h1, v, k.row _ _ _ _ h2 (fun h => h), own_keep (T := noT) (fun h => h) h3 k⟩
theorem told_apart {W : World} {B gb n size : Nat} {t e : TypeId} {cs : Array Value} {v : Value} {xs : List Value} (h1 : isBlk W gb t cs) (h2 : W.ownsRow B e size v n xs) (hne : t ≠ e) : v.ownBlock ≠ some gb := by
  intro hv
  rcases h2.2 with ⟨rfl, _⟩ | ⟨g, cap, cur, rfl, _, hh, _⟩
  · cases hv
  · obtain rfl : g = gb := Option.some.inj hv
    rw [isBlk, hh] at h1
    cases h1
    exact hne rfl
theorem blk_grown {W W' : World} {gb : Nat} {t : TypeId} {cs : Array Value} {own : Option Nat} (h : isBlk W gb t cs) (hg : W.grownBy W' own) (hne : own ≠ some gb) : isBlk W' gb t cs := (hg.block gb h.lt (fun e => hne e.symm)).trans h
set_option maxRecDepth 100000 in
set_option maxHeartbeats 4000000 in
theorem told_diff (B gb : Nat) (L : List Sp.Bs) (d : Sp.Bs) (x y : List Sp.Ver) (A A2 C C2 : Option Addr) (c m c' c2 m2 c2' : Nat) (W : World) (hJ : OutVar B gb L W) (hB : B ≤ W.heap.size) (hL : L.length ≤ 1121154893057) (hx : Vers W A x) (hy : Vers W A2 y) (hl : x.length ≤ 1000000) :
    Calls Tryz.prog 76 #[.string (strOf d), nodeV A x.length c C m c', nodeV A2 y.length c2 C2 m2 c2', .pointer (some ⟨gb, 0, none⟩)] W fun e W' => e = .returned (.tuple #[]) ∧ OutVar B gb (L ++ if (!decide (x = y)) = true then [d] else []) W' ∧ KB outT B W W' := by
  obtain ⟨tl, htl⟩ : ∃ tl, tl = if (!decide (x = y)) = true then [d] else [] := ⟨_, rfl⟩
  rw [← htl]
  have HTL := Lib.hid htl
  clear htl
  obtain ⟨hgb, v, hbx, ho⟩ := hJ
  obtain ⟨w2, hw2⟩ : ∃ w2, w2 = (W.alloc (.cells #[.slice A x.length c, .slice C m c'] 116)).alloc (.cells #[.slice A2 y.length c2, .slice C2 m2 c2'] 116) := ⟨_, rfl⟩
  have E2 := Lib.hid (show Ext W w2 by rw [hw2]; exact (Ext.alloc _ _).trans (Ext.alloc _ _))
  have Y1 := Lib.hid (show isBlk w2 W.heap.size 116 #[.slice A x.length c, .slice C m c'] by rw [hw2]; exact (box_at W _ _).alloc _)
  have Y2 := Lib.hid (show isBlk w2 (W.heap.size + 1) 116 #[.slice A2 y.length c2, .slice C2 m2 c2'] by
    rw [hw2]
    have := box_at (W.alloc (.cells #[.slice A x.length c, .slice C m c'] 116)) #[.slice A2 y.length c2, .slice C2 m2 c2'] 116
    rwa [World.size_alloc] at this)
  have HW := Lib.hid hw2
  have X2 := Lib.hid (hbx.below E2.out)
  have O2 := Lib.hid (own_ext ho E2.out)
  have SC := Lib.hid (same_calls x y A A2 c c2 w2 (hx.ext E2.out) (hy.ext E2.out) (by omega))
  have HB := Lib.hid (show B ≤ w2.heap.size from Nat.le_trans hB E2.out.size)
  have HBW := Lib.hid hB
  clear hbx ho hw2 hx hy hB
  go_enter Tryz.func76, Tryz.ntmps76
  go_upto_region 1 with fail
  rw [← HW.out]
  have f0 := (Y1.out.cell 0).trans rfl
  have f1 := (Y2.out.cell 0).trans rfl
  clear HW
  go_wp2_with fail
  refine SC.out.mono ?_
  rintro e w3 ⟨rfl, hb3⟩
  have E3 := Lib.hid hb3
  obtain ⟨b, hbq⟩ : ∃ b, b = decide (x = y) := ⟨_, rfl⟩
  rw [← hbq]
  have TL := Lib.hid (show tl = if (!b) = true then [d] else [] by rw [HTL.out, hbq])
  clear hb3 f0 f1 SC hbq HTL
  cases b with
  | true =>
    go_wp2
    go_end0
    refine ⟨rfl, ⟨hgb, v, X2.out.below E3.out, ?_⟩, KB.ext HBW.out (E2.out.trans E3.out)⟩
    rw [TL.out, show (if (!true) = true then [d] else []) = [] from rfl, List.append_nil]
    exact own_ext O2.out E3.out
  | false =>
    have X3 := Lib.hid (X2.out.below E3.out)
    have O3 := Lib.hid (own_ext O2.out E3.out)
    have HB3 := Lib.hid (Nat.le_trans HB.out E3.out.size)
    have hap := told_apart X3.out O3.out (by decide)
    have HA := Lib.hid hap
    have f0 := (X3.out.cell 0).trans rfl
    have tokA : True := trivial
    clear hap
    go_wp2_with (have _t := tokA; at_builtin; refine app_new appStr rfl _ _ rfl B v L.length _ rfl O3.out #[.string (strOf d)] 9 1 rfl rfl (by intro u hu; simp at hu; subst hu; rfl) (by decide) (by omega) HB3.out ?_; intro g9 cap9 w9 hown9 hgr9 hb9 hbg9; have O9 := Lib.hid (show w9.ownsRow B 9 1 (.slice (some ⟨g9, 0, none⟩) (L.length + 1) cap9) (L.length + 1) (strsC L ++ [.string (strOf d)]) from hown9); have X9 := Lib.hid (blk_grown X3.out hgr9 HA.out); have K9 := Lib.hid (show KB outT B w3 w9 from KB.grown O3.out (.inl rfl) hgr9 hb9); have k0 := X9.out.frozen 0; have k2 := (X9.out.cell 0).trans rfl; clear tokA _t hown9 hgr9 hb9 hbg9 f0)
    go_end0
    refine ⟨rfl, ⟨hgb, _, X9.out.put 0 _ rfl, ?_⟩, ((KB.ext HBW.out (E2.out.trans E3.out)).trans K9.out).trans (KB.set X9.out (.inr rfl) hgb _)⟩
    rw [TL.out, show (if (!false) = true then [d] else []) = [d] from rfl, List.length_append, strsC, List.map_append]
    refine own_far O9.out ?_ _
    exact told_apart X9.out O9.out (by decide)
theorem two_range {w : World} {g : Nat} {k : Sp.Two} (h : isBlk w g 263 (twoL k).toArray) (j : Nat) (l : List Value) (hl : ∀ i v, l[i]? = some v → (twoL k)[j + i]? = some v) : w.rangeAt g j l := fun i v hi => by
  rw [h.cell]
  simpa using hl i v hi
theorem two_at3 (k : Sp.Two) (h : TwoOk k) : (∀ i v, (k.2.2.2.1.map byteV)[i]? = some v → (twoL k)[3 + i]? = some v) ∧ (∀ i v, (k.2.2.2.2.map byteV)[i]? = some v → (twoL k)[35 + i]? = some v) := by
  refine ⟨fun i v hv => ?_, fun i v hv => ?_⟩
  · rw [twoL, List.getElem?_append_right (by simp), List.getElem?_append_left (by have := (List.getElem?_eq_some_iff.1 hv).1; simp at this ⊢; omega)]
    simpa using hv
  · rw [twoL, List.getElem?_append_right (by simp; omega), List.getElem?_append_right (by simp [h.1]; omega)]
    have : 35 + i - ([Value.string (strOf k.1)] ++ [Value.bool k.2.1] ++ [Value.bool k.2.2.1]).length - (k.2.2.2.1.map byteV).length = i := by simp [h.1]; omega
    rw [this]
    exact hv
section
variable {P : Program} {ops : Array Oper} {rest : List Oper} {op : Oper} {a : Act} {w : World} {Q : Exit → Act → World → Prop}
theorem wpListG_load_mid (hw : Region.wanted op (yielded ops a.tmps) = true) (ty : TypeId) (x : Operand) (ho : op.op = .load ty x)
    (b o : Nat) (hx : a.eval x = .pointer (some ⟨b, o, none⟩)) (cs : List Value) (d : TypeDesc) (hc : w.rangeAt b o cs)
    (hu : P.underlying ty = some d) (hd : d.isRow = true) (hi : (P.info? ty).map (·.size) = some cs.length)
    (h : wpList P ops Q rest (a.put op.dst (.agg cs.toArray)) w) : wpList P ops Q (op :: rest) a w := by
  unfold wpList
  rw [if_pos hw]
  exact .inl (wp_load_mid ty x ho b o hx cs d hc hu hd hi h)
end
set_option maxRecDepth 100000 in
set_option maxHeartbeats 4000000 in
theorem two_calls (k : Sp.Two) (h : TwoOk k) (w : World) : Calls Tryz.prog 214 #[.agg (twoL k).toArray] w fun e w' => e = .returned (.bool (Sp.differ2 k)) ∧ Ext w w' := by
  have D2 := Lib.hid (show Sp.differ2 k = (!k.2.1 || (!k.2.2.1 || k.2.2.2.1 != k.2.2.2.2)) from rfl)
  have T3 := Lib.hid (two_at3 k h)
  have HK := Lib.hid h
  have TZ := twoL_len k h
  have c1 : (twoL k)[1]? = some (.bool k.2.1) := rfl
  have c2 : (twoL k)[2]? = some (.bool k.2.2.1) := rfl
  obtain ⟨cs, hcs⟩ : ∃ cs, cs = (twoL k).toArray := ⟨_, rfl⟩
  have CS := Lib.hid hcs
  have e1 := Lib.hid (show cs[1]? = some (.bool k.2.1) by rw [hcs]; simpa using c1)
  have e2 := Lib.hid (show cs[2]? = some (.bool k.2.2.1) by rw [hcs]; simpa using c2)
  rw [← hcs]
  have tok1 : True := trivial
  clear h c1 c2 hcs TZ
  go_enter Tryz.func214, Tryz.ntmps214
  go_upto_region 1 with (have _t := tok1; ((with_reducible refine at_box (t := 263) rfl ?_); refine box_new rfl (cs := cs) (t := 263) (by first | (go_simp; done) | (go_simp; rfl)) ?_; intro g2 w2 hg2 hx2 hb2; have X2 := Lib.hid hx2; have B2 := Lib.hid (show Ext w w2 from hb2); clear tok1 _t hx2 hb2 hg2))
  have f1 := (X2.out.cell 1).trans e1.out
  have f2 := (X2.out.cell 2).trans e2.out
  have XK := Lib.hid (show isBlk w2 g2 263 (twoL k).toArray by rw [← CS.out]; exact X2.out)
  have R3 := Lib.hid (two_range XK.out 3 _ T3.out.1)
  have R4 := Lib.hid (two_range XK.out 35 _ T3.out.2)
  have L3 := Lib.hid (show (k.2.2.2.1.map byteV).length = 32 by rw [List.length_map, HK.out.1])
  have L4 := Lib.hid (show (k.2.2.2.2.map byteV).length = 32 by rw [List.length_map, HK.out.2.1])
  have M3 := Lib.hid (show (k.2.2.2.1.map byteV).toArray = digC k.2.2.2.1 from rfl)
  have M4 := Lib.hid (show (k.2.2.2.2.map byteV).toArray = digC k.2.2.2.2 from rfl)
  have hq := dig_eqv k.2.2.2.1 k.2.2.2.2 HK.out.1 HK.out.2.1 w2
  have hg := dig_guard
  obtain ⟨p, hp⟩ : ∃ p, p = k.2.1 := ⟨_, rfl⟩
  obtain ⟨q, hq0⟩ : ∃ q, q = k.2.2.1 := ⟨_, rfl⟩
  obtain ⟨r, hr⟩ : ∃ r, r = (k.2.2.2.1 == k.2.2.2.2) := ⟨_, rfl⟩
  have D3 := Lib.hid (show Sp.differ2 k = (!p || (!q || !r)) by rw [D2.out, hp, hq0, hr]; rfl)
  rw [← hp] at f1
  rw [← hq0] at f2
  rw [← hr] at hq
  clear hp hq0 hr D2 e1 e2
  cases p with
  | false =>
    go_wp2
    go_ret
    exact ⟨by rw [D3.out]; rfl, B2.out⟩
  | true =>
    cases q with
    | false =>
      go_wp2
      go_ret
      exact ⟨by rw [D3.out]; rfl, B2.out⟩
    | true =>
      go_wp2_with (first
        | ((with_reducible refine at_load (t := 36) rfl ?_); refine wpListG_load_mid rfl _ _ rfl g2 3 rfl (k.2.2.2.1.map byteV) _ R3.out Tryz.underlying36 rfl (by rw [L3.out]; kernel_rfl) ?_; rw [M3.out])
        | ((with_reducible refine at_load (t := 36) rfl ?_); refine wpListG_load_mid rfl _ _ rfl g2 35 rfl (k.2.2.2.2.map byteV) _ R4.out Tryz.underlying36 rfl (by rw [L4.out]; kernel_rfl) ?_; rw [M4.out]))
      go_ret
      exact ⟨by rw [D3.out]; rfl, B2.out⟩
end Go.Proofs.YtmlfnidckfeebaaGreatDoor
namespace Go.Proofs.YtmlfnidckfeebaaGreatDoor
open Go.RowKit Go.Shelf
attribute [local go_sem] yUpon strOf_toList
namespace Sp
theorem node_few {o : Option T} (h : GoodO o) {d : Bs} (hd : Dir d) : (nodeS (o.getD .nil) d).2.length ≤ 128 := by
  unfold nodeS
  cases hf : findS (o.getD .nil) d with
  | none => exact Nat.zero_le _
  | some s =>
    have hf2 := hf
    rw [find_dir hd] at hf2
    have hok := (findT_subs (parts d) (o.getD .nil) (getD_ok h.1)).2 s hf2
    have h1 := findT_small _ _ _ hf2
    have h2 : sizeT (o.getD .nil) ≤ 128 := by rw [getD_size]; exact h.2
    have h3 := kids_size s.kids (ok_rise hok).2
    have h4 := sizeT_n0 s
    show (nodeT s).2.length ≤ 128
    rw [nodeT_kids, List.length_map]
    omega
theorem node_leafs {o : Option T} (h : GoodO o) {d : Bs} (hd : Dir d) : (nodeS (o.getD .nil) d).1.length ≤ 1000000 := by
  unfold nodeS
  cases hf : findS (o.getD .nil) d with
  | none => exact Nat.zero_le _
  | some s =>
    have hf2 := hf
    rw [find_dir hd] at hf2
    have hok := (findT_subs (parts d) (o.getD .nil) (getD_ok h.1)).2 s hf2
    show (nodeT s).1.length ≤ _
    rw [nodeT_leaf]
    have h1 := findT_small _ _ _ hf2
    have h2 : sizeT (o.getD .nil) ≤ 128 := by rw [getD_size]; exact h.2
    exact Nat.le_trans (ok_fit hok (by omega)).1 (by decide)
theorem openT_len {oa ob : Option T} {ma mb : List DE} (PA : Both oa ma) (PB : Both ob mb) : ∀ (f : Nat) (d : Bs), Dir d → (openT (oa.getD .nil) (ob.getD .nil) f d).length ≤ 257 ^ f
  | 0, d, _ => Nat.zero_le _
  | f + 1, d, hd => by
    rw [openT]
    have hx := node_few PA.go hd
    have hy := node_few PB.go hd
    have hsub : ∀ k ∈ (kids2 (nodeS (oa.getD .nil) d).2 (nodeS (ob.getD .nil) d).2).filter differ2, (openT (oa.getD .nil) (ob.getD .nil) f (down d k.1)).length ≤ 257 ^ f := fun k hk =>
      openT_len PA PB f _ (kid_two PA PB hd (List.mem_filter.1 hk).1).1
    have hlen : (kids2 (nodeS (oa.getD .nil) d).2 (nodeS (ob.getD .nil) d).2).length ≤ 256 := by
      have hk : ∀ x y : List Kid, (kids2 x y).length ≤ x.length + y.length := by
        intro x y
        induction x, y using kids2.induct with
        | case1 => rw [kids2]; exact Nat.le_refl _
        | case2 a r ih => rw [kids2]; simp at ih ⊢; omega
        | case3 b s ih => rw [kids2]; simp at ih ⊢; omega
        | case4 a r b s h ih => rw [kids2, if_pos h]; simp at ih ⊢; omega
        | case5 a r b s h h2 ih => rw [kids2, if_neg h, if_pos h2]; simp at ih ⊢; omega
        | case6 a r b s h h2 ih => rw [kids2, if_neg h, if_neg h2]; simp at ih ⊢; omega
      have := hk (nodeS (oa.getD .nil) d).2 (nodeS (ob.getD .nil) d).2
      omega
    have hf := Nat.le_trans (List.length_filter_le differ2 (kids2 (nodeS (oa.getD .nil) d).2 (nodeS (ob.getD .nil) d).2)) hlen
    obtain ⟨K, hK⟩ : ∃ K, K = (kids2 (nodeS (oa.getD .nil) d).2 (nodeS (ob.getD .nil) d).2).filter differ2 := ⟨_, rfl⟩
    rw [← hK] at hsub hf ⊢
    have key : ∀ K : List Two, (∀ k ∈ K, (openT (oa.getD .nil) (ob.getD .nil) f (down d k.1)).length ≤ 257 ^ f) → (K.flatMap fun k => openT (oa.getD .nil) (ob.getD .nil) f (down d k.1)).length ≤ K.length * 257 ^ f := by
      intro K
      induction K with
      | nil => intro _; exact Nat.zero_le _
      | cons k r ih =>
        intro h
        have h1 := h k (List.mem_cons_self ..)
        have h2 := ih fun x hx => h x (List.mem_cons_of_mem _ hx)
        rw [List.flatMap_cons, List.length_append, List.length_cons, Nat.succ_mul]
        omega
    have h1 := key K hsub
    have h2 : K.length * 257 ^ f ≤ 256 * 257 ^ f := Nat.mul_le_mul_right _ hf
    have h3 : 1 ≤ 257 ^ f := Nat.one_le_pow _ _ (by decide)
    rw [List.length_cons, Nat.pow_succ]
    omega
theorem tell_len {tell : Bs → List Bs} (ht : ∀ d, (tell d).length ≤ 1) : ∀ l : List Bs, (l.flatMap tell).length ≤ l.length
  | [] => Nat.le_refl _
  | d :: r => by
    have h1 := ht d
    have h2 := tell_len ht r
    rw [List.flatMap_cons, List.length_append, List.length_cons]
    omega
theorem part_len {F : Two → List Bs} {n : Nat} : ∀ (l : List Two), (∀ k ∈ l, differ2 k = true → (F k).length ≤ n) → ∀ i, ((l.take i).filter differ2 |>.flatMap F).length ≤ i * n
  | [], _, i => by simp
  | k :: r, h, 0 => by simp
  | k :: r, h, i + 1 => by
    have ih := part_len r (fun x hx => h x (List.mem_cons_of_mem _ hx)) i
    have hk := h k (List.mem_cons_self ..)
    rw [List.take_succ_cons, Nat.succ_mul]
    cases hd : differ2 k with
    | true =>
      rw [List.filter_cons_of_pos hd, List.flatMap_cons, List.length_append]
      have := hk hd
      omega
    | false =>
      rw [List.filter_cons_of_neg (by rw [hd]; decide)]
      omega
theorem part_succ {F : Two → List Bs} (l : List Two) (i : Nat) (h : i < l.length) : ((l.take (i + 1)).filter differ2).flatMap F = ((l.take i).filter differ2).flatMap F ++ if differ2 l[i] = true then F l[i] else [] := by
  rw [filter_take differ2 l i h, List.flatMap_append]
  split <;> simp
end Sp
def two0 : Array Value := (twoL (([] : Sp.Bs), false, false, Sp.z32, Sp.z32)).toArray
theorem two_all (k : Sp.Two) : (twoL k).toArray.all (·.oneCell') = true := by
  apply all_oneCell_toArray
  intro u hu
  exact twoL_one k u (by simpa using hu)
theorem own_capN {w : World} {base n c size : Nat} {e : TypeId} {A : Option Addr} {xs : List Value} (h : w.ownsRow base e size (.slice A n c) n xs) : n ≤ c := by
  rcases h.2 with ⟨h, _⟩ | ⟨g, cap', cur, h, _, _, hn, _⟩
  · simp only [Value.slice.injEq] at h; omega
  · simp only [Value.slice.injEq] at h; omega
theorem _root_.Go.RowKit.Below.trans' {B : Nat} {a b c : World} (h : Below B a b) (k : Below B b c) : Below B a c := h.trans k
set_option maxRecDepth 100000 in
set_option maxHeartbeats 8000000 in
theorem popen_step (k : Nat) (lb : Array Value) (eg : ∀ args (w : World), (callFunc k args).run Tryz.prog w = .ok (.enter k args) w)
    (oa ob : Option Sp.T) (ma mb : List Sp.DE) (PA : Sp.Both oa ma) (PB : Sp.Both ob mb) (a b : Value) (w0 : World) (ha : TreeAt w0 a oa) (hb : TreeAt w0 b ob) (K : KeysAt w0 2) (M : MaxAt w0) (gp : Nat)
    (J : List Sp.Bs → World → Prop) (hJ : ∀ L W W', J L W → KB noT w0.heap.size W W' → J L W') (tell : Sp.Bs → List Sp.Bs) (ht : ∀ d, (tell d).length ≤ 1)
    (hcb : ∀ L d A c B c' A2 c2 B2 c2' W, Sp.Dir d → L.length ≤ 1121154893057 → Ext w0 W → J L W → Vers W A (Sp.nodeS (oa.getD .nil) d).1 → Vers W A2 (Sp.nodeS (ob.getD .nil) d).1 →
      Calls Tryz.prog k (#[.string (strOf d), nodeV A (Sp.nodeS (oa.getD .nil) d).1.length c B (Sp.nodeS (oa.getD .nil) d).2.length c', nodeV A2 (Sp.nodeS (ob.getD .nil) d).1.length c2 B2 (Sp.nodeS (ob.getD .nil) d).2.length c2'] ++ lb) W fun e W' => e = .returned (.tuple #[]) ∧ J (L ++ tell d) W' ∧ KB outT w0.heap.size W W')
    (f : Nat) (d : Sp.Bs) (hd : Sp.Dir d)
    (IH : ∀ k' ∈ Sp.kids2 (Sp.nodeS (oa.getD .nil) d).2 (Sp.nodeS (ob.getD .nil) d).2, Sp.differ2 k' = true → ∀ L W, Ext w0 W → isBlk W gp 197 #[a, b, .func (.func k) #[] lb] → J L W → L.length + 257 ^ f ≤ 1121154893057 →
      Calls Tryz.prog 140 #[.pointer (some ⟨gp, 0, none⟩), .string (strOf (Sp.down d k'.1))] W fun e W' => e = .returned (.tuple #[]) ∧ J (L ++ (Sp.openT (oa.getD .nil) (ob.getD .nil) f (Sp.down d k'.1)).flatMap tell) W' ∧ KB outT w0.heap.size W W')
    (L : List Sp.Bs) (W : World) (hE : Ext w0 W) (hp : isBlk W gp 197 #[a, b, .func (.func k) #[] lb]) (hL : J L W) (hl : L.length + 257 ^ (f + 1) ≤ 1121154893057) :
    Calls Tryz.prog 140 #[.pointer (some ⟨gp, 0, none⟩), .string (strOf d)] W fun e W' => e = .returned (.tuple #[]) ∧ J (L ++ (Sp.openT (oa.getD .nil) (ob.getD .nil) (f + 1) d).flatMap tell) W' ∧ KB outT w0.heap.size W W' := by
  have dl51 := dir_len hd
  have TA := Lib.hid fun W (e : Ext w0 W) => tnodeO_calls oa a d W (ha.ext e) PA.go (K.ext e) (max_kept M e)
  have TB := Lib.hid fun W (e : Ext w0 W) => tnodeO_calls ob b d W (hb.ext e) PB.go (K.ext e) (max_kept M e)
  have CB := Lib.hid fun A c B c' A2 c2 B2 c2' W => hcb L d A c B c' A2 c2 B2 c2' W hd (Nat.le_trans (Nat.le_add_right _ _) hl)
  have xf := Sp.node_few PA.go hd
  have yf := Sp.node_few PB.go hd
  have SUB := Lib.hid fun k' (hk : k' ∈ Sp.kids2 (Sp.nodeS (oa.getD .nil) d).2 (Sp.nodeS (ob.getD .nil) d).2) => Sp.kid_two PA PB hd hk
  have FL := Lib.hid (show ∀ k' ∈ Sp.kids2 (Sp.nodeS (oa.getD .nil) d).2 (Sp.nodeS (ob.getD .nil) d).2, Sp.differ2 k' = true → ((Sp.openT (oa.getD .nil) (ob.getD .nil) f (Sp.down d k'.1)).flatMap tell).length ≤ 257 ^ f from fun k' hk _ => Nat.le_trans (Sp.tell_len ht _) (Sp.openT_len PA PB f _ (Sp.kid_two PA PB hd hk).1))
  have OT := Lib.hid (show (Sp.openT (oa.getD .nil) (ob.getD .nil) (f + 1) d).flatMap tell = tell d ++ ((Sp.kids2 (Sp.nodeS (oa.getD .nil) d).2 (Sp.nodeS (ob.getD .nil) d).2).filter Sp.differ2).flatMap fun k' => (Sp.openT (oa.getD .nil) (ob.getD .nil) f (Sp.down d k'.1)).flatMap tell by
    rw [Sp.openT, List.flatMap_cons, List.flatMap_assoc])
  have HIH := Lib.hid IH
  have HJ := Lib.hid hJ
  have HL := Lib.hid hL
  have HP := Lib.hid hp
  have HE := Lib.hid hE
  obtain ⟨F, hF⟩ : ∃ F : Sp.Two → List Sp.Bs, F = fun k' => (Sp.openT (oa.getD .nil) (ob.getD .nil) f (Sp.down d k'.1)).flatMap tell := ⟨_, rfl⟩
  have FE := Lib.hid fun k' => show (Sp.openT (oa.getD .nil) (ob.getD .nil) f (Sp.down d k'.1)).flatMap tell = F k' by rw [hF]
  rw [← hF] at OT
  have FL2 := Lib.hid (show ∀ k' ∈ Sp.kids2 (Sp.nodeS (oa.getD .nil) d).2 (Sp.nodeS (ob.getD .nil) d).2, Sp.differ2 k' = true → (F k').length ≤ 257 ^ f from fun k' hk h => by rw [← FE.out k']; exact FL.out k' hk h)
  have HIH2 := Lib.hid (show ∀ k' ∈ Sp.kids2 (Sp.nodeS (oa.getD .nil) d).2 (Sp.nodeS (ob.getD .nil) d).2, Sp.differ2 k' = true → ∀ L W, Ext w0 W → isBlk W gp 197 #[a, b, .func (.func k) #[] lb] → J L W → L.length + 257 ^ f ≤ 1121154893057 →
      Calls Tryz.prog 140 #[.pointer (some ⟨gp, 0, none⟩), .string (strOf (Sp.down d k'.1))] W fun e W' => e = .returned (.tuple #[]) ∧ J (L ++ F k') W' ∧ KB outT w0.heap.size W W' from fun k' hk h => by rw [← FE.out k']; exact HIH.out k' hk h)
  obtain ⟨R, hR⟩ : ∃ R, R = (Sp.openT (oa.getD .nil) (ob.getD .nil) (f + 1) d).flatMap tell := ⟨_, rfl⟩
  rw [← hR] at OT ⊢
  obtain ⟨x, hx⟩ : ∃ x, x = Sp.nodeS (oa.getD .nil) d := ⟨_, rfl⟩
  obtain ⟨y, hy⟩ : ∃ y, y = Sp.nodeS (ob.getD .nil) d := ⟨_, rfl⟩
  rw [← hx] at TA CB xf SUB OT FL2 HIH2
  rw [← hy] at TB CB yf SUB OT FL2 HIH2
  have p1 : 1 ≤ 257 ^ f := Nat.one_le_pow _ _ (by decide)
  have p2 : 257 ^ (f + 1) = 257 * 257 ^ f := by rw [Nat.pow_succ]; omega
  have td := ht d
  rw [p2] at hl
  obtain ⟨n, hn⟩ : ∃ n, n = 257 ^ f := ⟨_, rfl⟩
  rw [← hn] at p1 hl FL2 HIH2
  obtain ⟨pa, rfl⟩ := tree_ptr ha
  obtain ⟨pb, rfl⟩ := tree_ptr hb
  clear PA PB ha hb K M hJ hcb IH hL hp hE hF hR hx hy hn FL FE HIH p2 ht
  have tok1 : True := trivial
  have tok2 : True := trivial
  have q0 := (HP.out.cell 0).trans rfl
  go_enter Tryz.func140, Tryz.ntmps140
  go_wp2_with fail
  refine (TA.out W HE.out).mono ?_
  rintro e w1 ⟨A1, c1, B1, c1', rfl, hv1, hk1, hb1, ho1⟩
  have V1 := Lib.hid hv1
  have O1 := Lib.hid ho1
  have E1 := Lib.hid hb1
  have K1 := Lib.hid hk1.2
  clear hv1 hk1 hb1 ho1 TA q0
  go_upto_region 1 with (have _t := tok1; ((with_reducible refine at_alloc (t := 116) rfl ?_); refine box_new rfl (cs := #[.slice none 0 0, .slice none 0 0]) (t := 116) (by first | (go_simp; done) | (go_simp; rfl)) ?_; intro g2 w2 hg2 hx2 hb2; have H2 := Lib.hid hx2; have B2 := Lib.hid (show Ext w1 w2 from hb2); have GG2 := Lib.hid hg2; have k0 := hx2.frozen 0; have k1 := hx2.frozen 1; have k2 := (hx2.cell 0).trans rfl; have k3 := (hx2.cell 1).trans rfl; clear tok1 _t hx2 hb2 hg2))
  obtain ⟨w3, hw3⟩ : ∃ w3, w3 = (w2.setCell ⟨g2, 0, none⟩ (.slice A1 x.1.length c1)).setCell ⟨g2, 1, none⟩ (.slice B1 x.2.length c1') := ⟨_, rfl⟩
  have X3 := Lib.hid (show isBlk w3 g2 116 #[.slice A1 x.1.length c1, .slice B1 x.2.length c1'] by rw [hw3]; exact (H2.out.put 0 _ rfl).put 1 _ rfl)
  have E3 := Lib.hid (show Ext w1 w3 by rw [hw3]; exact (B2.out.setCell GG2.out _).setCell GG2.out _)
  rw [← hw3]
  clear hw3 k0 k1 k2 k3
  have F3 := Lib.hid (E1.out.trans E3.out)
  have q1 := ((HP.out.below F3.out).cell 1).trans rfl
  go_wp2_with fail
  refine (TB.out w3 (HE.out.trans F3.out)).mono ?_
  rintro e w4 ⟨A4, c4, B4, c4', rfl, hv4, hk4, hb4, ho4⟩
  have V4 := Lib.hid hv4
  have O4 := Lib.hid ho4
  have E4 := Lib.hid hb4
  have K4 := Lib.hid hk4.2
  clear hv4 hk4 hb4 ho4 TB q1
  go_upto_region 2 with (have _t := tok2; ((with_reducible refine at_alloc (t := 116) rfl ?_); refine box_new rfl (cs := #[.slice none 0 0, .slice none 0 0]) (t := 116) (by first | (go_simp; done) | (go_simp; rfl)) ?_; intro g5 w5 hg5 hx5 hb5; have H5 := Lib.hid hx5; have B5 := Lib.hid (show Ext w4 w5 from hb5); have GG5 := Lib.hid hg5; have k0 := hx5.frozen 0; have k1 := hx5.frozen 1; have k2 := (hx5.cell 0).trans rfl; have k3 := (hx5.cell 1).trans rfl; clear tok2 _t hx5 hb5 hg5))
  obtain ⟨w6, hw6⟩ : ∃ w6, w6 = (w5.setCell ⟨g5, 0, none⟩ (.slice A4 y.1.length c4)).setCell ⟨g5, 1, none⟩ (.slice B4 y.2.length c4') := ⟨_, rfl⟩
  have X6 := Lib.hid (show isBlk w6 g5 116 #[.slice A4 y.1.length c4, .slice B4 y.2.length c4'] by rw [hw6]; exact (H5.out.put 0 _ rfl).put 1 _ rfl)
  have E6 := Lib.hid (show Ext w4 w6 by rw [hw6]; exact (B5.out.setCell GG5.out _).setCell GG5.out _)
  rw [← hw6]
  clear hw6 k0 k1 k2 k3
  have F6 := Lib.hid (F3.out.trans (E4.out.trans E6.out))
  have E36 := Lib.hid (E4.out.trans E6.out)
  have X36 := Lib.hid (X3.out.below E36.out)
  have HP6 := Lib.hid (HP.out.below F6.out)
  go_wp2_with fail
  refine wp_region_det_tail (fun W' => Ext w6 W') 7 (by kernel_rfl) (by kernel_rfl) (Ext.refl w6).drew ?_
  simp only [List.take_succ_cons, List.take_zero, List.drop_succ_cons, List.drop_zero]
  repeat (first
    | (refine det_step (fun K hK => ?_)
       apply Exists.intro
       refine ⟨Or.inl ⟨rfl, fun W hS => ?_⟩, ?_⟩
       · have hz : Ext w6 W := hS; have q2 := ((HP6.out.below hz).cell 2).trans rfl; have a0 := ((X36.out.below hz).cell 0).trans rfl; have a1 := ((X36.out.below hz).cell 1).trans rfl; have b0 := ((X6.out.below hz).cell 0).trans rfl; have b1 := ((X6.out.below hz).cell 1).trans rfl
         go_simp
         first
         | exact rfl
         | exact ⟨rfl, hS⟩
         | (fail)
       go_simp
       refine hK _ ?_
       clear hK K)
    | (refine det_step (fun K hK => ?_); refine det_no' rfl ?_; go_simp; refine hK _ ?_; clear hK K))
  refine det_nil ?_
  intro w7 hS
  have E7 := Lib.hid (show Ext w6 w7 from hS)
  clear hS
  go_wp2_with fail
  refine (CB.out A1 c1 B1 c1' A4 c4 B4 c4' w7 (HE.out.trans (F6.out.trans E7.out)) (HJ.out _ _ _ HL.out (KB.ext HE.out.size (F6.out.trans E7.out))) (V1.out.ext (E3.out.trans (E36.out.trans E7.out))) (V4.out.ext (E6.out.trans E7.out))).mono ?_
  rintro e w8 ⟨rfl, hJ8, hk8⟩
  have J8 := Lib.hid hJ8
  have K8 := Lib.hid ((KB.ext HE.out.size (F6.out.trans E7.out)).trans hk8)
  have X8 := Lib.hid (show isBlk w8 g2 116 #[.slice A1 x.1.length c1, .slice B1 x.2.length c1'] from hk8.row _ _ _ _ (X36.out.below E7.out) (by decide))
  have Y8 := Lib.hid (show isBlk w8 g5 116 #[.slice A4 y.1.length c4, .slice B4 y.2.length c4'] from hk8.row _ _ _ _ (X6.out.below E7.out) (by decide))
  have OX := own_keep (T := outT) (by decide) (own_ext O1.out (E3.out.trans (E36.out.trans E7.out))) hk8
  have OY := own_keep (T := outT) (by decide) (own_ext O4.out (E6.out.trans E7.out)) hk8
  have P8 := Lib.hid (show isBlk w8 gp 197 #[.pointer pa, .pointer pb, .func (.func k) #[] lb] from hk8.row _ _ _ _ (HP6.out.below E7.out) (by decide))
  have KX := Lib.hid (show Kids w8 B1 x.2 from ⟨by obtain ⟨A, cap, h1, h2⟩ := own_read OX; cases h1; exact h2, K1.out⟩)
  have KY := Lib.hid (show Kids w8 B4 y.2 from ⟨by obtain ⟨A, cap, h1, h2⟩ := own_read OY; cases h1; exact h2, K4.out⟩)
  have cx := own_capN OX
  have cy := own_capN OY
  have T2 := Lib.hid (kids2_ok x.2 y.2 K1.out K4.out)
  have f0 := (X8.out.cell 1).trans rfl
  have f1 := (Y8.out.cell 1).trans rfl
  have EW := Lib.hid (show Ext w0 w8 from (HE.out.trans (F6.out.trans E7.out)).trans' hk8.below)
  clear hJ8 hk8 OX OY CB HL HP HP6 V1 V4 O1 O4 E1 E3 E4 E6 E36 F3 F6 B2 B5 GG2 GG5 H2 H5 X3 X6 X36 HE
  go_wp2_with fail
  refine (kids2_calls x.2 y.2 B1 B4 c1' c4' w8 KX.out KY.out cx cy (by omega) (by omega)).mono ?_
  rintro e w9 ⟨v9, rfl, hO9, hb9⟩
  have O9 := Lib.hid hO9
  obtain ⟨A9, c9, rfl, _⟩ := own_read hO9
  obtain ⟨l, hl9⟩ : ∃ l, l = Sp.kids2 x.2 y.2 := ⟨_, rfl⟩
  rw [← hl9] at O9 SUB OT FL2 HIH2 T2 ⊢
  have lw : l.length ≤ 256 := by have := T2.out.2; omega
  have E9 := Lib.hid hb9
  have K9 := Lib.hid (K8.out.trans (KB.ext EW.out.size hb9))
  have J9 := Lib.hid (HJ.out _ _ _ J8.out (KB.ext EW.out.size hb9))
  have P9 := Lib.hid (P8.out.below hb9)
  have EW9 := Lib.hid (EW.out.trans hb9)
  have PL := Lib.hid fun i => Sp.part_len (F := F) (n := n) l FL2.out i
  have PS := Lib.hid fun i h => Sp.part_succ (F := F) l i h
  clear hO9 hb9 hl9 KX KY cx cy X8 Y8 f0 f1 xf yf J8 K8 P8 EW K1 K4
  go_wp2
  go_loopw [42] (fun v42 wr => ∃ i : Nat, i ≤ l.length ∧ v42 = .int .i64 i ∧ J (L ++ tell d ++ ((l.take i).filter Sp.differ2).flatMap F) wr ∧ KB outT w0.heap.size w9 wr) (fun v42 _ => l.length - (intOf v42).toNat)
  case atStart => exact ⟨0, Nat.zero_le _, rfl, by simpa using J9.out, KB.refl _ _ _⟩
  case round =>
    obtain ⟨i, hi, rfl, hj, hk⟩ := hrel
    have JR := Lib.hid hj
    have KR := Lib.hid hk
    clear hj hk
    by_cases hlt : i < l.length
    · obtain ⟨g, o, hA9, hat⟩ := two_at (by obtain ⟨A, cap, h1, h2⟩ := own_read (own_keep (T := outT) (by decide) O9.out KR.out); cases h1; exact h2) T2.out.1 (by omega)
      subst hA9
      have hm := List.getElem_mem hlt
      have tk := T2.out.1 _ hm
      have S1 := SUB.out _ hm
      have G1 := Lib.hid (HIH2.out _ hm)
      have Q1 := Lib.hid (PS.out i hlt)
      have q2 := PL.out i
      have HR := Lib.hid (hat i hlt)
      obtain ⟨kd, hkd⟩ : ∃ kd, kd = l[i] := ⟨_, rfl⟩
      rw [← hkd] at tk S1 G1 Q1 HR
      have TK := Lib.hid tk
      have dn12 := S1.2.2.2.1
      have KL := Lib.hid (twoL_len kd tk)
      have ka : ((twoL kd).toArray).size = 67 := by simp [KL.out]
      have HKA := Lib.hid ka
      have k0 : ((twoL kd).toArray)[0]? = some (.string (strOf kd.1)) := rfl
      have K0 := Lib.hid k0
      obtain ⟨cs, hcs⟩ : ∃ cs, cs = twoL kd := ⟨_, rfl⟩
      have CS := Lib.hid hcs
      have CL := Lib.hid (show cs.length = 67 by rw [hcs]; exact KL.out)
      have CA := Lib.hid (show cs.toArray.size = 67 by rw [List.size_toArray, CL.out])
      have CO := Lib.hid (show cs.toArray.all (·.oneCell') = true by rw [hcs]; exact two_all kd)
      have C0 := Lib.hid (show cs.toArray[0]? = some (.string (strOf kd.1)) by rw [hcs]; exact K0.out)
      have TC := Lib.hid (two_calls kd tk)
      rw [← hcs] at HR TC
      have ER := Lib.hid (show Ext w0 wr from EW9.out.trans' KR.out.below)
      have PR := Lib.hid (show isBlk wr gp 197 #[.pointer pa, .pointer pb, .func (.func k) #[] lb] from KR.out.row _ _ _ _ P9.out (by decide))
      obtain ⟨pt, hpt⟩ : ∃ pt, pt = ((l.take i).filter Sp.differ2).flatMap F := ⟨_, rfl⟩
      rw [← hpt] at JR Q1 q2
      have b1 : (i : Int) < (l.length : Int) := by omega
      have hn1 : L.length + (1 + i * n + n) ≤ 1121154893057 := by
        have h1 : i * n ≤ 255 * n := Nat.mul_le_mul_right _ (by omega)
        omega
      have NB := Lib.hid (show (L ++ tell d ++ pt).length + n ≤ 1121154893057 by
        rw [List.length_append, List.length_append]
        omega)
      obtain ⟨b, hb⟩ : ∃ b, b = Sp.differ2 kd := ⟨_, rfl⟩
      rw [← hb] at TC Q1 G1
      clear hat hm tk S1 hkd ka k0 hcs hpt q2 hn1 hb
      have tok2 : True := trivial
      have tok3 : True := trivial
      have tok4 : True := trivial
      have tok5 : True := trivial
      go_wp2_with (first
        | (have _t2 := tok2; (with_reducible refine at_load (t := 263) rfl ?_); refine wpList_load_mid rfl _ _ rfl g (o + i * 67) rfl cs _ HR.out Tryz.underlying263 rfl (by rw [CL.out]; kernel_rfl) ?_; clear tok2 _t2)
        | (have _t3 := tok3; ((with_reducible refine at_alloc (t := 263) rfl ?_); refine box_new rfl (cs := two0) (t := 263) (by first | (go_simp; done) | (go_simp; rfl)) ?_; intro g4 w4 hg4 hx4 hb4; have H4 := Lib.hid hx4; have B4' := Lib.hid hb4; have GG4 := Lib.hid hg4; clear tok3 _t3 hx4 hb4 hg4))
        | (have _t4 := tok4; ((with_reducible refine at_store (t := 263) rfl ?_); refine wpList_store_row rfl _ _ _ rfl g4 cs.toArray rfl rfl 263 _ H4.out (by rw [CA.out]; kernel_rfl) (by rw [CA.out]; rfl) CO.out ?_; obtain ⟨w5, hw5⟩ : ∃ w5, w5 = w4.setRow g4 cs.toArray := ⟨_, rfl⟩; rw [← hw5]; have B5 := Lib.hid (show Ext wr w5 by rw [hw5]; exact below_setRow B4'.out GG4.out _); have X5 := Lib.hid (show isBlk w5 g4 263 cs.toArray by rw [hw5]; exact setRow_heap _ _ _ _ _ _ H4.out); have R5 := Lib.hid (show w5.rangeAt g4 0 cs from fun j v hj => by rw [Nat.zero_add, X5.out.cell j]; simpa using hj); clear hw5 tok4 _t4))
        | (have _t5 := tok5; (with_reducible refine at_load (t := 263) rfl ?_); refine wpList_load_mid rfl _ _ rfl g4 0 rfl cs _ R5.out Tryz.underlying263 rfl (by rw [CL.out]; kernel_rfl) ?_; clear tok5 _t5))
      refine (TC.out w5).mono ?_
      rintro e w6 ⟨rfl, hb6⟩
      have B6 := Lib.hid (B5.out.trans hb6)
      have X6 := Lib.hid (X5.out.below hb6)
      have JM := Lib.hid (HJ.out _ _ _ JR.out (KB.ext ER.out.size B6.out))
      have KM := Lib.hid (KR.out.trans (KB.ext ER.out.size B6.out))
      clear hb6 TC
      cases b with
      | false =>
        have Q2 := Lib.hid (show ((l.take (i + 1)).filter Sp.differ2).flatMap F = pt by rw [Q1.out, if_neg (by decide), List.append_nil])
        clear Q1 G1
        go_wp2
        go_roundw
        case rel => exact ⟨i + 1, by omega, by go_num, by rw [Q2.out]; exact JM.out, KM.out⟩
        case measure => simp [intOf]; omega
      | true =>
        have Q2 := Lib.hid (show ((l.take (i + 1)).filter Sp.differ2).flatMap F = pt ++ F kd by rw [Q1.out, if_pos rfl])
        have f0 := (X6.out.cell 0).trans C0.out
        clear Q1
        go_wp2_with fail
        refine (ddown_calls d kd.1 w6 (by omega) (by omega)).mono ?_
        rintro e w7 ⟨rfl, rfl⟩
        clear f0
        go_wp2_with fail
        refine (G1.out (by first | rfl | trivial) _ w6 (ER.out.trans B6.out) (PR.out.below B6.out) JM.out NB.out).mono ?_
        rintro e w7 ⟨rfl, hj7, hk7⟩
        have J7 := Lib.hid hj7
        have K7 := Lib.hid (KM.out.trans hk7)
        clear hj7 hk7
        go_wp2
        go_roundw
        case rel => exact ⟨i + 1, by omega, by go_num, by rw [Q2.out, ← List.append_assoc]; exact J7.out, K7.out⟩
        case measure => simp [intOf]; omega
    · obtain rfl : i = l.length := by omega
      rw [List.take_length] at JR
      go_wp2
      go_end0
      refine ⟨rfl, ?_, K9.out.trans KR.out⟩
      rw [OT.out, ← List.append_assoc]
      exact JR.out
theorem popen_calls (k : Nat) (lb : Array Value) (eg : ∀ args (w : World), (callFunc k args).run Tryz.prog w = .ok (.enter k args) w)
    (oa ob : Option Sp.T) (ma mb : List Sp.DE) (PA : Sp.Both oa ma) (PB : Sp.Both ob mb) (a b : Value) (w0 : World) (ha : TreeAt w0 a oa) (hb : TreeAt w0 b ob) (K : KeysAt w0 2) (M : MaxAt w0) (gp : Nat)
    (J : List Sp.Bs → World → Prop) (hJ : ∀ L W W', J L W → KB noT w0.heap.size W W' → J L W') (tell : Sp.Bs → List Sp.Bs) (ht : ∀ d, (tell d).length ≤ 1)
    (hcb : ∀ L d A c B c' A2 c2 B2 c2' W, Sp.Dir d → L.length ≤ 1121154893057 → Ext w0 W → J L W → Vers W A (Sp.nodeS (oa.getD .nil) d).1 → Vers W A2 (Sp.nodeS (ob.getD .nil) d).1 →
      Calls Tryz.prog k (#[.string (strOf d), nodeV A (Sp.nodeS (oa.getD .nil) d).1.length c B (Sp.nodeS (oa.getD .nil) d).2.length c', nodeV A2 (Sp.nodeS (ob.getD .nil) d).1.length c2 B2 (Sp.nodeS (ob.getD .nil) d).2.length c2'] ++ lb) W fun e W' => e = .returned (.tuple #[]) ∧ J (L ++ tell d) W' ∧ KB outT w0.heap.size W W') :
    ∀ (f : Nat) (d : Sp.Bs), Sp.Dir d → 5 ≤ (Sp.parts d).length + f → ∀ (L : List Sp.Bs) (W : World), Ext w0 W → isBlk W gp 197 #[a, b, .func (.func k) #[] lb] → J L W → L.length + 257 ^ f ≤ 1121154893057 →
      Calls Tryz.prog 140 #[.pointer (some ⟨gp, 0, none⟩), .string (strOf d)] W fun e W' => e = .returned (.tuple #[]) ∧ J (L ++ (Sp.openT (oa.getD .nil) (ob.getD .nil) f d).flatMap tell) W' ∧ KB outT w0.heap.size W W'
  | 0, d, _, h5, _, _, _, _, _, _ => by have := Sp.parts_len d; omega
  | f + 1, d, hd, h5, L, W, hE, hp, hL, hl =>
    popen_step k lb eg oa ob ma mb PA PB a b w0 ha hb K M gp J hJ tell ht hcb f d hd (fun k' hk' _ L2 W2 hE2 hp2 hL2 hl2 => by
      obtain ⟨d1, d2, _⟩ := Sp.kid_two PA PB hd hk'
      refine popen_calls k lb eg oa ob ma mb PA PB a b w0 ha hb K M gp J hJ tell ht hcb f (Sp.down d k'.1) d1 ?_ L2 W2 hE2 hp2 hL2 hl2
      rw [d2, List.length_append, List.length_singleton]
      omega) L W hE hp hL hl
end Go.Proofs.YtmlfnidckfeebaaGreatDoor
