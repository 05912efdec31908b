/- Deltas: which directories the document opens. A law for a region that draws its order, by a plan: each next operation is the only one that may come, or tells one value in every world of a kind T, so that it may as well come now. -/
import Derived.Test.YtmlfnidckfeebaaGreatDoorM36
import Derived.Test.YtmlfnidckfeebaaGreatDoorM28
namespace Go.Proofs.YtmlfnidckfeebaaGreatDoor
open Go.RowKit Go.Shelf
attribute [local go_sem] yUpon strOf_toList
section
variable {P : Program} {ops : Array Oper} {rest : List Oper} {o : Oper} {a : Act} {Q : Exit → Act → World → Prop} {w : World}
/-- An append of none. -/
theorem app_none {t e : TypeId} {size bytes : Nat} (hst : AppStat P t e size bytes) (hgd : o.guard = none) (s x : Operand) (ho : o.op = .call { callee := .builtin .append, args := #[s, x], argTypes := #[t, t] })
    (base : Nat) (v : Value) (n : Nat) (xs : List Value) (hs : a.eval s = v) (hown : w.ownsRow base e size v n xs) (X : Option Addr) (c : Nat) (hx : a.eval x = .slice X 0 c) (h : wpList P ops Q rest (a.put o.dst v) w) : wpList P ops Q (o :: rest) a w := by
  obtain ⟨ht, _, _, i, z, hi, _, _, _, _⟩ := hst
  refine Lib.wpList_append_run w hgd s x t t ho v _ hs hx v w ?_ h
  rcases hown.2 with ⟨rfl, _⟩ | ⟨g, cap, cur, rfl, _, _, hnc, _⟩
  · cases X with
    | none => simp [Builtin.append_, run_underlying ht, sizeOf, typeInfo, hi, Builtin.lenOf, Builtin.firstCells]
    | some ad => simp [Builtin.append_, run_underlying ht, sizeOf, typeInfo, hi, Builtin.lenOf, Builtin.firstCells, loadCells, loadCellsFrom]
  · cases X with
    | none => simp [Builtin.append_, run_underlying ht, sizeOf, typeInfo, hi, Builtin.lenOf, Builtin.firstCells, hnc, storeCells]
    | some ad => simp [Builtin.append_, run_underlying ht, sizeOf, typeInfo, hi, Builtin.lenOf, Builtin.firstCells, hnc, storeCells, loadCells, loadCellsFrom]
end
namespace Sp
/-- The directories that are opened, by the document. -/
def openS (oa ob : Option T) (l : List DE) : Nat → Bs → List Bs
  | 0, _ => []
  | f + 1, d => if diffS oa ob d = true then d :: (belowS d l).flatMap fun n => openS oa ob l f (down d n) else []
theorem openS_len (oa ob : Option T) (l : List DE) (hl : l.length ≤ 256) : ∀ f d, (openS oa ob l f d).length ≤ 257 ^ f
  | 0, d => Nat.zero_le _
  | f + 1, d => by
    rw [openS]
    have hb : (belowS d l).length ≤ 256 := by
      have := belowS_len d l l.length (Nat.le_refl _)
      rw [List.take_length] at this
      omega
    have key : ∀ L : List Bs, (L.flatMap fun n => openS oa ob l f (down d n)).length ≤ L.length * 257 ^ f := by
      intro L
      induction L with
      | nil => exact Nat.zero_le _
      | cons x r ih =>
        have := openS_len oa ob l hl f (down d x)
        rw [List.flatMap_cons, List.length_append, List.length_cons, Nat.succ_mul]
        omega
    split
    · have h1 := key (belowS d l)
      have h2 : (belowS d l).length * 257 ^ f ≤ 256 * 257 ^ f := Nat.mul_le_mul_right _ hb
      have h3 : 1 ≤ 257 ^ f := Nat.one_le_pow _ _ (by decide)
      rw [List.length_cons, Nat.pow_succ]
      omega
    · exact Nat.zero_le _
theorem belowS_mem (d : Bs) : ∀ (l : List DE) (out : List Bs) (x : Bs), x ∈ l.foldl (fun out e => if under e.1 d = true then put18 ((parts e.1).getD (parts d).length []) false out else out) out → x ∈ out ∨ ∃ e ∈ l, under e.1 d = true ∧ (parts e.1).getD (parts d).length [] = x
  | [], out, x, h => .inl h
  | e :: r, out, x, h => by
    rw [List.foldl_cons] at h
    rcases belowS_mem d r _ x h with h | ⟨y, hy, h1, h2⟩
    · by_cases hu : under e.1 d = true
      · rw [if_pos hu] at h
        rcases put18_mem _ out false x h with rfl | h
        · exact .inr ⟨e, List.mem_cons_self .., hu, rfl⟩
        · exact .inl h
      · rw [if_neg hu] at h
        exact .inl h
    · exact .inr ⟨y, List.mem_cons_of_mem _ hy, h1, h2⟩
/-- A directory right below another one, of two lists. -/
theorem below_down {l : List DE} (hm : ∀ e ∈ l, check e.1 = 0) {d : Bs} (hd : Dir d) {s : Bs} (hs : s ∈ belowS d l) : Dir (down d s) ∧ parts (down d s) = parts d ++ [s] ∧ (parts d).length + 1 ≤ 4 ∧ s.length ≤ 12 := by
  rcases belowS_mem d l [] s hs with h | ⟨e, he, hu, hg⟩
  · cases h
  · have eu' := under_parts hu
    have hc := check_parts (hm e he)
    have hsp : split e.1 = (parts d ++ [s]) ++ (parts e.1).drop ((parts d).length + 1) := by
      rw [← hc.1]
      have := split_at (parts e.1) _ [] eu'.2.2.1
      rw [eu'.2.2.2, hg] at this
      rw [List.append_assoc]
      exact this
    have hp := check_prefix (hm e he) hsp (by simp)
    rw [← down_is hd s] at hp
    refine ⟨.inr hp.1, hp.2, by have := eu'.2.2.1; rw [hc.1] at this; omega, ?_⟩
    rw [← hg, List.getD_eq_getElem?_getD, List.getElem?_eq_getElem eu'.2.2.1, Option.getD_some]
    have h4 := hc.2.2.2
    rw [← hc.1] at h4
    exact name_len (List.all_eq_true.1 h4 _ (List.getElem_mem _))
theorem open_take (oa ob : Option T) (l : List DE) (f : Nat) (d : Bs) (L : List Bs) (k : Nat) (h : k < L.length) : ((L.take (k + 1)).flatMap fun n => openS oa ob l f (down d n)) = ((L.take k).flatMap fun n => openS oa ob l f (down d n)) ++ openS oa ob l f (down d L[k]) := by
  rw [List.take_succ_eq_append_getElem h, List.flatMap_append]
  simp
theorem open_part (oa ob : Option T) (l : List DE) (f : Nat) (d : Bs) (L : List Bs) (k : Nat) : ((L.take k).flatMap fun n => openS oa ob l f (down d n)).length ≤ (L.flatMap fun n => openS oa ob l f (down d n)).length := by
  conv => rhs; rw [← List.take_append_drop k L]
  rw [List.flatMap_append, List.length_append]
  omega
end Sp
theorem dstr_one (l : List Sp.Bs) : ∀ u ∈ strsC l, u.oneCell' = true := fun u hu => by
  unfold strsC at hu
  obtain ⟨x, _, rfl⟩ := List.mem_map.1 hu
  rfl
theorem dstr_len (l : List Sp.Bs) : (strsC l).length = l.length := List.length_map ..
theorem dstr_cat (l m : List Sp.Bs) : strsC (l ++ m) = strsC l ++ strsC m := List.map_append ..
theorem dcell_grown {w w' : World} {own : Option Nat} {g i : Nat} {u : Value} (hg : w.grownBy w' own) (hne : own ≠ some g) (c : w.cell? ⟨g, i, none⟩ = some u) : w'.cell? ⟨g, i, none⟩ = some u :=
  (World.cell?_of_block (hg.block g (World.block_lt_of_cell? w _ c) (fun e => hne e.symm))).trans c
set_option maxRecDepth 100000 in
set_option maxHeartbeats 4000000 in
theorem ropen_step (oa ob : Option Sp.T) (ma mb : List Sp.DE) (PA : Sp.Both oa ma) (PB : Sp.Both ob mb) (A B : Option Addr) (cap cap' : Nat) (f : Nat) (hf : f + 1 ≤ 5) (d : Sp.Bs) (hd : Sp.Dir d)
    (IH : ∀ n ∈ Sp.belowS d (ma ++ mb), ∀ w : World, EntsAt w A ma → EntsAt w B mb → KeysAt w 0 → Calls Tryz.prog 75 #[.slice A ma.length cap, .slice B mb.length cap', .string (strOf (Sp.down d n))] w fun e w' => ∃ v, e = .returned v ∧ w'.ownsRow w.heap.size 9 1 v (Sp.openS oa ob (ma ++ mb) f (Sp.down d n)).length (strsC (Sp.openS oa ob (ma ++ mb) f (Sp.down d n))) ∧ Ext w w')
    (w : World) (hA : EntsAt w A ma) (hB : EntsAt w B mb) (K : KeysAt w 0) :
    Calls Tryz.prog 75 #[.slice A ma.length cap, .slice B mb.length cap', .string (strOf d)] w fun e w' => ∃ v, e = .returned v ∧ w'.ownsRow w.heap.size 9 1 v (Sp.openS oa ob (ma ++ mb) (f + 1) d).length (strsC (Sp.openS oa ob (ma ++ mb) (f + 1) d)) ∧ Ext w w' := by
  have dl51 := dir_len hd
  have la := PA.gm.2
  have lb := PB.gm.2
  have hchk : ∀ e ∈ ma ++ mb, Sp.check e.1 = 0 := fun e he => (List.mem_append.1 he).elim (PA.gm.1 e) (PB.gm.1 e)
  have ll : (ma ++ mb).length ≤ 256 := by rw [List.length_append]; omega
  have RD := Lib.hid (rdiffers_calls oa ob ma mb PA PB A B cap cap' d (by omega) w hA hB K)
  have BC := Lib.hid fun W (e : Ext w W) => below18_calls ma mb A B cap cap' d (by omega) W (hA.ext e) (hB.ext e) la lb (fun e he => Nat.le_trans (PA.mlen e he) (by decide)) (fun e he => Nat.le_trans (PB.mlen e he) (by decide)) (fun e he x hx => by
    have h4 := (Sp.check_parts (hchk e he)).2.2.2
    rw [← (Sp.check_parts (hchk e he)).1] at h4
    exact Nat.le_trans (Sp.name_len (List.all_eq_true.1 h4 _ hx)) (by decide))
  have OL := Sp.openS_len oa ob (ma ++ mb) ll (f + 1) d
  have BD := Lib.hid fun n (h : n ∈ Sp.belowS d (ma ++ mb)) => (Sp.below_down hchk hd h).2.2.2
  have bl : (Sp.belowS d (ma ++ mb)).length ≤ 256 := by
    have := Sp.belowS_len d (ma ++ mb) (ma ++ mb).length (Nat.le_refl _)
    rw [List.take_length] at this
    omega
  have p5 : 257 ^ (f + 1) ≤ 257 ^ 5 := Nat.pow_le_pow_right (by decide) hf
  have p5' : (257 : Nat) ^ 5 = 1121154893057 := by decide
  rw [p5'] at p5
  have OL2 : (Sp.openS oa ob (ma ++ mb) (f + 1) d).length ≤ 1121154893057 := Nat.le_trans OL p5
  have OE := Lib.hid (show Sp.openS oa ob (ma ++ mb) (f + 1) d = if Sp.diffS oa ob d = true then d :: (Sp.belowS d (ma ++ mb)).flatMap fun n => Sp.openS oa ob (ma ++ mb) f (Sp.down d n) else [] from rfl)
  have TK := Lib.hid fun k h => Sp.open_take oa ob (ma ++ mb) f d (Sp.belowS d (ma ++ mb)) k h
  have TP := Lib.hid fun k => Sp.open_part oa ob (ma ++ mb) f d (Sp.belowS d (ma ++ mb)) k
  have HIH := Lib.hid IH
  have HA := Lib.hid hA
  have HB := Lib.hid hB
  have KK := Lib.hid K
  obtain ⟨L, hL⟩ : ∃ L, L = Sp.belowS d (ma ++ mb) := ⟨_, rfl⟩
  obtain ⟨g, hg⟩ : ∃ g : Sp.Bs → List Sp.Bs, g = fun n => Sp.openS oa ob (ma ++ mb) f (Sp.down d n) := ⟨_, rfl⟩
  obtain ⟨R, hR⟩ : ∃ R, R = Sp.openS oa ob (ma ++ mb) (f + 1) d := ⟨_, rfl⟩
  obtain ⟨b, hb⟩ : ∃ b, b = Sp.diffS oa ob d := ⟨_, rfl⟩
  rw [← hb] at RD OE
  rw [← hR] at OE OL2 ⊢
  rw [← hL] at BC BD bl OE TK TP HIH
  rw [← hg] at OE TK TP
  have GE := Lib.hid fun n => show Sp.openS oa ob (ma ++ mb) f (Sp.down d n) = g n by rw [hg]
  have HIH2 := Lib.hid (show ∀ n ∈ L, ∀ w : World, EntsAt w A ma → EntsAt w B mb → KeysAt w 0 → Calls Tryz.prog 75 #[.slice A ma.length cap, .slice B mb.length cap', .string (strOf (Sp.down d n))] w fun e w' => ∃ v, e = .returned v ∧ w'.ownsRow w.heap.size 9 1 v (g n).length (strsC (g n)) ∧ Ext w w' from fun n hn => by
    have := HIH.out n hn
    rw [GE.out n] at this
    exact this)
  have TK2 := Lib.hid (show ∀ (k : Nat) (h : k < L.length), (L.take (k + 1)).flatMap g = (L.take k).flatMap g ++ g L[k] from fun k h => by
    rw [TK.out k h, ← GE.out])
  clear hchk ll OL p5 p5' PA PB IH hA hB K hd HIH TK GE hL hg hR hb
  go_enter Tryz.func75, Tryz.ntmps75
  go_wp2_with fail
  refine RD.out.mono ?_
  rintro e w1 ⟨rfl, hb1⟩
  have E1 := Lib.hid hb1
  clear hb1 RD
  cases b with
  | false =>
    have OE2 := OE.out
    rw [if_neg (by decide)] at OE2
    clear OE
    subst OE2
    go_wp2
    go_ret
    exact ⟨_, rfl, World.ownsRow_nil _ _ _ _, E1.out⟩
  | true =>
    have OE1 := OE.out
    rw [if_pos rfl] at OE1
    have OE2 := Lib.hid OE1
    have hRl : R.length = 1 + (L.flatMap g).length := by rw [OE1, List.length_cons]; omega
    clear OE OE1
    have tokA : True := trivial
    go_wp2_with (have _t := tokA; at_builtin; refine app_new appStr rfl _ _ rfl w.heap.size _ 0 [] rfl (World.ownsRow_nil _ _ _ _) #[.string (strOf d)] 9 1 rfl rfl (by intro u hu; simp at hu; subst hu; rfl) (by decide) (by decide) E1.out.size ?_; intro g3 cap3 w3 hown3 hgr3 hb3 hbg3; have O3 := Lib.hid (show w3.ownsRow w.heap.size 9 1 (.slice (some ⟨g3, 0, none⟩) (0 + 1) cap3) 1 (strsC [d]) from hown3); have E3 := Lib.hid (show Ext w w3 from Below.trans E1.out hb3); clear tokA _t hown3 hgr3 hb3 hbg3)
    refine (BC.out w3 E3.out).mono ?_
    rintro e w4 ⟨v4, rfl, hO4, hb4⟩
    obtain ⟨A4, c4, rfl, hc4⟩ := own_read hO4
    have S3 := Lib.hid (O3.out.lt g3 rfl).2
    have N4 := Lib.hid hO4
    have NN := Lib.hid (show Nams w4 A4 L from hc4)
    have O4 := Lib.hid (own_ext O3.out hb4)
    have E4 := Lib.hid (E3.out.trans hb4)
    clear hO4 hc4 hb4 O3
    go_wp2
    go_loopw [7, 9] (fun v7 v9 wr => ∃ k : Nat, k ≤ L.length ∧ v9 = .int .i64 k ∧ wr.ownsRow w.heap.size 9 1 v7 (1 + ((L.take k).flatMap g).length) (strsC (d :: (L.take k).flatMap g)) ∧ (∀ g o, A4 = some ⟨g, o, none⟩ → v7.ownBlock ≠ some g ∧ g < wr.heap.size) ∧ Nams wr A4 L ∧ Ext w wr) (fun _ v9 _ => L.length - (intOf v9).toNat)
    case atStart =>
      refine ⟨0, Nat.zero_le _, rfl, O4.out, fun g o hg => ?_, NN.out, E4.out⟩
      subst hg
      have h1 := N4.out.lt g rfl
      refine ⟨fun h => ?_, h1.2⟩
      have h2 : g3 = g := Option.some.inj h
      have := S3.out
      omega
    case round =>
      obtain ⟨k, hk, rfl, hO, hne, hN, hb⟩ := hrel
      have HX := Lib.hid hb
      have HO := Lib.hid hO
      have HN := Lib.hid hN
      have HNE := Lib.hid hne
      clear hO hne hN hb
      by_cases hlt : k < L.length
      · obtain ⟨nb, no, rfl, hnm⟩ := HN.out.at (by omega)
        have n0 := hnm k hlt
        have IK := Lib.hid (HIH2.out L[k] (List.getElem_mem hlt))
        have TKK := Lib.hid (TK2.out k hlt)
        have tp2 := TP.out (k + 1)
        rw [TKK.out, List.length_append] at tp2
        have xl := BD.out _ (List.getElem_mem hlt)
        obtain ⟨x, hxk⟩ : ∃ x, x = L[k] := ⟨_, rfl⟩
        rw [← hxk] at n0 IK xl TKK tp2
        have b1 : (k : Int) < (L.length : Int) := by omega
        have DC := Lib.hid (down_calls d x wr (by omega) (by omega))
        obtain ⟨q, hq⟩ : ∃ q, q = (L.take k).flatMap g := ⟨_, rfl⟩
        rw [← hq] at HO TKK tp2
        obtain ⟨y, hy⟩ : ∃ y, y = g x := ⟨_, rfl⟩
        rw [← hy] at IK TKK tp2
        obtain ⟨dn, hdn⟩ : ∃ dn, dn = Sp.down d x := ⟨_, rfl⟩
        rw [← hdn] at DC IK
        clear hnm hxk hq hy hdn
        go_wp2_with fail
        refine DC.out.mono ?_
        rintro e w5 ⟨rfl, rfl⟩
        clear n0
        go_wp2_with fail
        refine (IK.out _ (HA.out.ext HX.out) (HB.out.ext HX.out) (KK.out.ext HX.out)).mono ?_
        rintro e w6 ⟨v6, rfl, hO6, hb6⟩
        obtain ⟨A6, c6, rfl, hc6⟩ := own_read hO6
        have E6 := Lib.hid hb6
        have B6 := Lib.hid (HX.out.trans hb6)
        have N6 := Lib.hid (HN.out.ext hb6)
        have nb6 := Lib.hid (show nb < wr.heap.size from (HNE.out nb no rfl).2)
        have ne6 := Lib.hid (show u7.ownBlock ≠ some nb from (HNE.out nb no rfl).1)
        by_cases hy0 : y = []
        · have TK3 := Lib.hid (show (L.take (k + 1)).flatMap g = q by rw [TKK.out, hy0, List.append_nil])
          rw [hy0] at hO6 ⊢
          have O7 := Lib.hid (own_ext HO.out E6.out)
          have tokA : True := trivial
          clear hO6 hb6 hc6 hy0 TKK
          go_wp2_with (have _t := tokA; at_builtin; refine app_none appStr rfl _ _ rfl w.heap.size u7 (1 + q.length) _ rfl O7.out A6 c6 rfl ?_; clear tokA _t)
          go_roundw
          case rel =>
            refine ⟨k + 1, by omega, by go_num, by rw [TK3.out]; exact O7.out, fun g o hg => ?_, N6.out, B6.out⟩
            cases hg
            have h6 := E6.out.size
            have h8 := nb6.out
            exact ⟨ne6.out, by omega⟩
          case measure => simp [intOf]; omega
        · obtain ⟨gx, ox, rfl, hcx⟩ := hc6 (by intro e; have := dstr_len y; rw [e] at this; simp at this; exact hy0 (List.eq_nil_of_length_eq_zero this.symm))
          have XC := Lib.hid hcx
          have X0 : 0 < y.length := by cases y with | nil => exact absurd rfl hy0 | cons _ _ => simp
          have tokA : True := trivial
          clear hO6 hb6 hc6 hcx hy0
          go_wp2_with (have _t := tokA; at_builtin; refine app_where appStr rfl _ _ rfl w.heap.size u7 (1 + q.length) _ rfl (own_ext HO.out E6.out) gx ox y.length c6 (strsC y) rfl X0 (by rw [dstr_len, Nat.mul_one]) XC.out (dstr_one y) (by omega) B6.out.size ?_; intro v7 w7 hown7 hgr7 hb7 hwh7; have O7 := Lib.hid hown7; have G7 := Lib.hid hgr7; have B7 := Lib.hid hb7; have W7 := Lib.hid hwh7; clear tokA _t hown7 hgr7 hb7 hwh7)
          have N7 := Lib.hid (show Nams w7 (some ⟨nb, no, none⟩) L from fun hn => by
            obtain ⟨g, o, hA, hc⟩ := N6.out hn
            cases hA
            exact ⟨nb, no, rfl, fun i u hu => dcell_grown G7.out ne6.out (hc i u hu)⟩)
          go_roundw
          case rel =>
            refine ⟨k + 1, by omega, by go_num, ?_, fun g o hg => ?_, N7.out, Below.trans B6.out B7.out⟩
            · rw [TKK.out, List.length_append, ← List.cons_append, dstr_cat, ← Nat.add_assoc]
              exact O7.out
            · cases hg
              have h6 := E6.out.size
              have h7 := B7.out.size
              have h8 := nb6.out
              refine ⟨fun h => ?_, by omega⟩
              rcases W7.out with h9 | ⟨k9, h9, h10⟩
              · exact ne6.out (by rw [← h9]; exact h)
              · rw [h] at h10
                have : nb = k9 := Option.some.inj h10
                omega
          case measure => simp [intOf]; omega
      · obtain rfl : k = L.length := by omega
        rw [List.take_length, ← OE2.out] at HO
        rw [← hRl] at HO
        go_wp2
        go_ret
        exact ⟨_, rfl, HO.out, HX.out⟩
theorem ropen_calls (oa ob : Option Sp.T) (ma mb : List Sp.DE) (PA : Sp.Both oa ma) (PB : Sp.Both ob mb) (A B : Option Addr) (cap cap' : Nat) : ∀ (f : Nat) (d : Sp.Bs) (w : World), f ≤ 5 → 5 ≤ (Sp.parts d).length + f → Sp.Dir d → EntsAt w A ma → EntsAt w B mb → KeysAt w 0 →
    Calls Tryz.prog 75 #[.slice A ma.length cap, .slice B mb.length cap', .string (strOf d)] w fun e w' => ∃ v, e = .returned v ∧ w'.ownsRow w.heap.size 9 1 v (Sp.openS oa ob (ma ++ mb) f d).length (strsC (Sp.openS oa ob (ma ++ mb) f d)) ∧ Ext w w'
  | 0, d, w, _, hf, _, _, _, _ => by have := Sp.parts_len d; omega
  | f + 1, d, w, h5, hf, hd, hA, hB, K =>
    ropen_step oa ob ma mb PA PB A B cap cap' f h5 d hd (fun n hn w2 hA2 hB2 K2 => by
      have hchk : ∀ e ∈ ma ++ mb, Sp.check e.1 = 0 := fun e he => (List.mem_append.1 he).elim (PA.gm.1 e) (PB.gm.1 e)
      obtain ⟨k1, k2, _, _⟩ := Sp.below_down hchk hd hn
      refine ropen_calls oa ob ma mb PA PB A B cap cap' f (Sp.down d n) w2 (by omega) ?_ k1 hA2 hB2 K2
      rw [k2, List.length_append]
      show 5 ≤ (Sp.parts d).length + 1 + f
      omega) w hA hB K
end Go.Proofs.YtmlfnidckfeebaaGreatDoor
namespace Go.Proofs.YtmlfnidckfeebaaGreatDoor
open Go.RowKit
section
variable {P : Program} {md : Region.Mode} {ops : Array Oper} {T : World → Prop}
def planB (md : Region.Mode) (ops : Array Oper) (m : Nat) (B : Array Bool → Bool) : List (Bool × Nat) → Array Bool → Bool
  | [], listed => B listed
  | (true, k) :: r, listed => decide (k < m) && (Region.ready md ops listed).contains k && Region.free md ops listed k && planB md ops m B r (listed.setIfInBounds k true)
  | (false, k) :: r, listed => decide (k < m) && decide (Region.ready md ops listed = [k]) && planB md ops m B r (listed.setIfInBounds k true)
def lexPlanB (md : Region.Mode) (ops : Array Oper) (m : Nat) (plan : List (Bool × Nat)) : Bool :=
  Region.noSelect ops && decide (m < ops.size) && decide (plan.length = m) && sinkFrom md ops 0 m && behindB md ops m && planB md ops m (Region.seqB md ops (ops.size - m) m) plan (Array.replicate ops.size false)
def wpPlanT (P : Program) (ops : Array Oper) (T : World → Prop) (Q : Exit → Act → World → Prop) (tl : List Oper) : List (Bool × Nat) → Act → World → Prop
  | [], a, w => wpList P ops (goesOn Q) tl a w
  | (true, k) :: r, a, w => ∃ o v, ops[k]? = some o ∧ YieldsT P ops T o v a ∧ wpPlanT P ops T Q tl r (a.put o.dst v) w
  | (false, k) :: r, a, w => ∃ o, ops[k]? = some o ∧ wpList P ops (fun e a w => e = .normal ∧ T w ∧ wpPlanT P ops T Q tl r a w) [o] a w
theorem plan_nil {Q : Exit → Act → World → Prop} {tl : List Oper} {a : Act} {w : World} (h : wpList P ops (goesOn Q) tl a w) : wpPlanT P ops T Q tl [] a w := h
theorem plan_float {Q : Exit → Act → World → Prop} {tl : List Oper} {k : Nat} {r : List (Bool × Nat)} {a : Act} {w : World} {o : Oper} (h0 : ops[k]? = some o)
    (h : ∀ K : Act → Prop, (∀ a, wpPlanT P ops T Q tl r a w → K a) → ∃ v, YieldsT P ops T o v a ∧ K (a.put o.dst v)) : wpPlanT P ops T Q tl ((true, k) :: r) a w := by
  obtain ⟨v, h1, h2⟩ := h _ fun _ h => h
  exact ⟨o, v, h0, h1, h2⟩
theorem plan_only {Q : Exit → Act → World → Prop} {tl : List Oper} {k : Nat} {r : List (Bool × Nat)} {a : Act} {w : World} {o : Oper} (h0 : ops[k]? = some o)
    (h : ∀ Q' : Exit → Act → World → Prop, (∀ a w, T w → wpPlanT P ops T Q tl r a w → Q' .normal a w) → wpList P ops Q' [o] a w) : wpPlanT P ops T Q tl ((false, k) :: r) a w :=
  ⟨o, h0, h _ fun _ _ h1 h2 => ⟨rfl, h1, h2⟩⟩
theorem wpAnyT_of_plan {m : Nat} {Q : Exit → Act → World → Prop} (hsel : Region.noSelect ops = true) (hs : sinkFrom md ops 0 m = true) (hc : behindB md ops m = true) (hms : m < ops.size) (tl : List Oper) (htl : ∀ j, tl[j]? = ops[m + j]?) :
    ∀ (plan : List (Bool × Nat)) (listed : Array Bool) (a : Act) (w : World), T w → HeadInv md ops m listed →
      planB md ops m (Region.seqB md ops tl.length m) plan listed = true → wpPlanT P ops T Q tl plan a w → wpAnyT P md ops T m (goesOn Q) (plan.length + tl.length) listed a w
  | [], listed, a, w, _, _, hB, h => by
    rw [List.length_nil, Nat.zero_add]
    exact wpAnyT_of_seq tl m listed a w (Nat.le_refl _) htl hB h
  | (true, k) :: r, listed, a, w, hT, inv, hB, h => by
    obtain ⟨o, v, h0, hy, hK⟩ := h
    simp only [planB, Bool.and_eq_true, decide_eq_true_eq] at hB
    obtain ⟨⟨⟨hk, hr⟩, hf⟩, hB'⟩ := hB
    have hr' : k ∈ Region.ready md ops listed := by simpa using hr
    rw [List.length_cons, show r.length + 1 + tl.length = (r.length + tl.length) + 1 by omega]
    exact wpAnyT_first h0 (Region.noSelect_spec hsel) (fun c a w h => by cases h.1) (I := HeadInv md ops m) (fun listed j inv hj hjm => inv.set hj hjm)
      (fun listed inv hun t ht => tail_waits3 hs hc hms inv _ k rfl (Nat.zero_le _) hk hun t ht) (r.length + tl.length) listed a w hT inv (Region.free_spec h0 hf) hr' hy
      (wpAnyT_of_plan hsel hs hc hms tl htl r _ _ w hT (inv.set hr' hk) hB' hK)
  | (false, k) :: r, listed, a, w, hT, inv, hB, h => by
    obtain ⟨o, h0, hK⟩ := h
    simp only [planB, Bool.and_eq_true, decide_eq_true_eq] at hB
    obtain ⟨⟨hk, hr⟩, hB'⟩ := hB
    have hr' : k ∈ Region.ready md ops listed := by rw [hr]; exact List.mem_singleton.2 rfl
    rw [List.length_cons, show r.length + 1 + tl.length = (r.length + tl.length) + 1 by omega]
    refine ⟨fun h1 => (by rw [hr] at h1; cases h1), fun i hi => ?_⟩
    rw [hr] at hi
    obtain rfl : i = k := by simpa using hi
    exact wpOp_of_one h0 (fun e a w h => h.1) (fun a2 w2 h2 => ⟨fun _ => h2.2.1, wpAnyT_of_plan hsel hs hc hms tl htl r _ a2 w2 h2.2.1 (inv.set hr' hk) hB' h2.2.2⟩) hK
/-- The first m operations by a plan; then a tail in its own order. -/
theorem wp_region_planT (T : World → Prop) {id : Nat} {Q : Exit → Act → World → Prop} {a : Act} {w : World} {l : List Oper} (m : Nat) (plan : List (Bool × Nat)) (hm : P.follows .mixedOrders = true) (hB : lexPlanB .any l.toArray m plan = true)
    (hT : T w.drew) (h : wpPlanT P l.toArray T Q (l.drop m) plan a w.drew) : (Code.region id l.toArray true).wp P Q a w := by
  simp only [lexPlanB, Bool.and_eq_true, decide_eq_true_eq] at hB
  obtain ⟨⟨⟨⟨⟨hsel, hms⟩, hpl⟩, hs⟩, hc⟩, hlex⟩ := hB
  have hms' : m < l.length := by simpa using hms
  have hdl : (l.drop m).length = l.toArray.size - m := by simp
  refine Code.wp_mono (Q := goesOn Q) (fun e a w h => by obtain ⟨rfl, h⟩ := h; exact h) (wp_region_any hm (wpAny_of_T (T := T) (m := m) _ _ _ _ ?_))
  have := wpAnyT_of_plan (P := P) (T := T) (Q := Q) hsel hs hc hms (l.drop m) (fun j => by simp [List.getElem?_drop]) plan (Array.replicate l.toArray.size false) a w.drew hT
    ⟨by simp, fun j oj _ hl => (by rw [getD_replicate_false] at hl; cases hl), fun t _ ht => getD_in (by simpa using ht) (getD_replicate_false _ _)⟩ (by rw [hdl]; exact hlex) h
  rw [hpl, hdl, show m + (l.toArray.size - m) = l.toArray.size by omega] at this
  exact this
end
end Go.Proofs.YtmlfnidckfeebaaGreatDoor
