/- Walks: the node of a directory of a tree. Walks: a tree tells all paths, with their leaves. -/
import Derived.Test.YtmlfnidckfeebaaGreatDoorP020
import Derived.Test.YtmlfnidckfeebaaGreatDoorP032
namespace Go.Proofs.YtmlfnidckfeebaaGreatDoor
open Go.RowKit Go.Shelf
attribute [local go_sem] yUpon strOf_toList
namespace Sp
end Sp
set_option maxRecDepth 100000 in
set_option maxHeartbeats 4000000 in
theorem tget_calls (o : Option Sp.T) (v : Value) (d : Sp.Bs) (w : World) (h : TreeAt w v o) (hg : Sp.GoodO o) (K : KeysAt w 2) (M : MaxAt w) :
    Calls Tryz.prog 29 #[v, .string (strOf d)] w fun e w' => ∃ A c, e = .returned (.slice A (Sp.nodeS (o.getD .nil) d).1.length c) ∧ Vers w' A (Sp.nodeS (o.getD .nil) d).1 ∧ Ext w w' := by
  have FC := Lib.hid (find_calls o v d w h hg K M)
  obtain ⟨t, ht⟩ : ∃ t, t = o.getD .nil := ⟨_, rfl⟩
  rw [← ht] at FC ⊢
  have OK0 := Lib.hid (show Sp.Ok t by rw [ht]; exact getD_ok hg.1)
  have SZ0 := Lib.hid (show Sp.sizeT t ≤ 900000 by rw [ht, Sp.getD_size]; exact Nat.le_trans hg.2 (by decide))
  clear h K M ht hg
  go_enter Tryz.func29, Tryz.ntmps29
  go_wp2_with fail
  refine FC.out.mono ?_
  rintro e w3 ⟨v3, rfl, ho3, hb3⟩
  have B3 := Lib.hid (show Ext w w3 from hb3)
  clear hb3 FC
  rcases ho3 with ⟨h3, rfl⟩ | ⟨g3, s, h3, rfl, hi3⟩
  · have N3 := Lib.hid (show Sp.nodeS t d = ([], []) by rw [Sp.nodeS, h3])
    clear h3
    go_wp2
    go_ret
    rw [N3.out]
    exact ⟨none, 0, rfl, ⟨[], rfl, Cells.nil _ _, fun x h => by cases h⟩, B3.out⟩
  · have N3 := Lib.hid (show (Sp.nodeS t d).1 = s.leaf by rw [Sp.nodeS, h3]; exact nodeT_leaf s)
    have FT := Lib.hid (Sp.ok_fit (Sp.findS_fits OK0.out SZ0.out h3).1 (Nat.le_trans (Sp.findS_fits OK0.out SZ0.out h3).2 (by decide)))
    obtain ⟨A, B, C, c, c', c'', gs, hp⟩ := hi3.pre
    have CP := Lib.hid (copied_calls s.leaf A c w3 hp.V FT.out.1 FT.out.2.1)
    have f0 := (hp.blk.cell 0).trans hp.c0
    clear h3 hi3 hp
    go_wp2_with fail
    refine CP.out.mono ?_
    rintro e w4 ⟨v4, rfl, hO4, hb4⟩
    obtain ⟨A4, c4, rfl, hV4⟩ := hO4.read
    have V4 := Lib.hid hV4
    have E4 := Lib.hid (B3.out.trans hb4)
    clear hO4 hV4 hb4
    go_wp2
    go_ret
    rw [N3.out]
    exact ⟨A4, c4, rfl, V4.out, E4.out⟩
end Go.Proofs.YtmlfnidckfeebaaGreatDoor
namespace Go.Proofs.YtmlfnidckfeebaaGreatDoor
open Go.RowKit Go.Shelf
attribute [local go_sem] yUpon strOf_toList Oper.semAt_some
/-- What a round keeps, told of the k-th entry. -/
def Tells (T : TypeId → Prop) (B l : Nat) (xs : List LE) (J : Nat → World → Prop) : Prop :=
  ∀ i (hi : i < xs.length) (W1 : World) (m : Nat), J i W1 → YieldAt Fence.wide m Tryz.prog l (encL xs[i]) W1 fun e W' => e = .returned (.bool true) ∧ J (i + 1) W' ∧ KB T B W1 W'
namespace Sp
theorem kids_some : ∀ (k : List (Bs × T)), OkL k → ∀ x ∈ k, entries x.2 ≠ []
  | [], _, x, h => by cases h
  | (n, t) :: r, hk, x, h => by
    rcases List.mem_cons.1 h with rfl | h
    · exact hk.2.1
    · exact kids_some r hk.2.2.2 x h
end Sp
theorem own_low {w : World} {b b' n : Nat} {e : TypeId} {size : Nat} {v : Value} {xs : List Value} (h : w.ownsRow b e size v n xs) (hb : b' ≤ b) : w.ownsRow b' e size v n xs := by
  refine ⟨h.1, ?_⟩
  rcases h.2 with h2 | ⟨g, cap, cur, hv, hg, rest⟩
  · exact .inl h2
  · exact .inr ⟨g, cap, cur, hv, Nat.le_trans hb hg, rest⟩
theorem cell_new (w : World) (u : Value) (t : TypeId) : (w.alloc (.cells #[u] t)).cell? ⟨w.heap.size, 0, none⟩ = some u := (box_at w #[u] t).cell 0
theorem if_then {c : Prop} [Decidable c] {A B : Prop} (h : c) (a : A) : (if c then A else B) := by rw [if_pos h]; exact a
/-- One operation, as a list of one. -/
theorem step_of_list {F : Fence} {n : Nat} {P : Program} {ops : Array Oper} {o : Oper} {a : Act} {w : World} {K : Act → World → Prop} {Q : Exit → Act → World → Prop} (hw : Region.wanted o (yielded ops a.tmps) = true) (h : wpListIn F n P ops (Exit.then K Q) [o] a w) : Oper.wpIn F n P o a w K Q := by
  unfold wpListIn at h
  rw [if_pos hw] at h
  refine ⟨h.1, ?_⟩
  have h2 := h.2
  generalize (o.semAt F.round a.eval).run P w = q at h2 ⊢
  cases q with
  | ok x w2 => cases x <;> exact h2
  | halt x w2 => cases x <;> exact h2
/-- 'append(s, x)' of one that lies anywhere. -/
theorem appIn_one {F : Fence} {n : Nat} {P : Program} {ops : Array Oper} {rest : List Oper} {o : Oper} {a : Act} {Q : Exit → Act → World → Prop} {w : World} {t e : TypeId} {bytes : Nat} (hst : AppStat P t e 1 bytes) (hgd : o.guard = none) (s x : Operand) (ho : o.op = .call { callee := .builtin .append, args := #[s, x], argTypes := #[t, t] })
    (base : Nat) (v : Value) (k : Nat) (xs : List Value) (hs : a.eval s = v) (hown : w.ownsRow base e 1 v k xs) (gx : Nat) (u : Value) (hx : a.eval x = .slice (some ⟨gx, 0, none⟩) 1 1) (hc : w.cell? ⟨gx, 0, none⟩ = some u) (h1 : u.oneCell' = true) (hcap : (k + 1) * bytes ≤ 140737488355328) (hbase : base ≤ w.heap.size)
    (h : ∀ g cap w', w'.ownsRow base e 1 (.slice (some ⟨g, 0, none⟩) (k + 1) cap) (k + 1) (xs ++ [u]) → w.grownBy w' v.ownBlock → base ≤ g → wpListIn F n P ops Q rest (a.put o.dst (.slice (some ⟨g, 0, none⟩) (k + 1) cap)) w') :
    wpListIn F n P ops Q (o :: rest) a w := by
  obtain ⟨ht, hz0, hb0, i, z, hi, hz, hsz, hby, hzs⟩ := hst
  have hmax : k + 1 ≤ maxLen := by
    have : k + 1 ≤ (k + 1) * bytes := Nat.le_mul_of_pos_right _ hb0
    unfold maxLen; omega
  refine wpListIn_append_own _ hgd s x t ho base e i z 1 bytes ht hi hz hsz hby hzs hz0 v k xs hs hown ⟨gx, 0, none⟩ 1 1 [u] hx (by simp) ?_ (by intro y hy; simp at hy; rw [hy]; exact h1) hmax hcap hbase ?_
  · intro j y hj
    cases j with
    | zero => obtain rfl : u = y := by simpa using hj
              simpa [Addr.add] using hc
    | succ j => simp at hj
  · intro v' w' hown' hg _
    obtain ⟨g, cap, rfl, hgb⟩ := owned_form hown' (by omega)
    exact h g cap w' hown' hg hgb
theorem strs_one (l : List Sp.Bs) : ∀ u ∈ strsC l, u.oneCell' = true := by
  intro u hu
  obtain ⟨x, _, rfl⟩ := List.mem_map.1 hu
  rfl
set_option maxRecDepth 100000 in
set_option maxHeartbeats 4000000 in
theorem all_in {w0 : World} {T : TypeId → Prop} (hT : ¬ T 9) {g : Nat} {t : Sp.T} {m : List LE} (h : ListAt w0 g t m) :
    ∀ (n : Nat) (d : List Sp.Bs) (v : Value) (l : Nat) (xs : List LE) (J : Nat → World → Prop) (i0 : Nat) (wa : World), Sp.Ok t → Sp.sizeT t ≤ 1000000 → (∀ i W W', J i W → Ext W W' → J i W') → (∀ i W, J i W → Ext w0 W) → Tells T w0.heap.size l xs J →
      (∀ j (h : j < m.length), xs[i0 + j]? = some (catL d m[j])) → (∀ x ∈ m, d.length + x.2.2.1.length ≤ 60) → d.length ≤ 60 → (∀ s ∈ d, s.length ≤ 12) → DirAt wa v d → J i0 wa →
      CallsIn Fence.wide n Tryz.prog 152 #[.pointer (some ⟨g, 0, none⟩), v, .func (.yield l) #[] #[]] wa fun e W' => e = .returned (.bool true) ∧ J (i0 + m.length) W' ∧ KB T w0.heap.size wa W' := by
  induction h with
  | mk g t A B C c c' c'' gs ms hp hm hK ih =>
    intro n d v l xs J i0 wa hok hsz hJx hJ0 hY hx hd hd0 hdn hD hJ
    have OK := Lib.hid hok
    have SZ := Lib.hid hsz
    have kb : t.kids.length ≤ 1000000 := by
      have h1 := Sp.kids_size t.kids (ok_rise hok).2
      have h2 := Sp.sizeT_n0 t
      omega
    have JX := Lib.hid hJx
    have J0 := Lib.hid hJ0
    have YY := Lib.hid hY
    have XX := Lib.hid hx
    have HD := Lib.hid hd
    have DN := Lib.hid hdn
    have DA := Lib.hid hD
    have JJ := Lib.hid hJ
    have PP := Lib.hid hp
    have IH := Lib.hid ih
    have EW := Lib.hid (hJ0 _ _ hJ)
    have HK := Lib.hid hK
    clear hok hsz hJx hJ0 hY hx hd hdn hD hJ hp ih hK
    obtain ⟨Ad, cd, rfl, hN, hcd⟩ := DA.out.read
    have NN := Lib.hid hN
    have P1 := Lib.hid (PP.out.ext EW.out)
    have f0 := (P1.out.blk.cell 0).trans P1.out.c0
    clear hN
    refine callsIn_of_wp Tryz.func152 rfl trivial ?_ rfl
    simp only [Tryz.ntmps152, List.size_toArray, List.length_cons, List.length_nil, Nat.reduceAdd, Nat.reduceSub, Array.replicate_succ, Array.replicate_zero, List.push_toArray, List.append_toArray, List.nil_append, List.cons_append]
    gi_wp2_with fail
    have JN := Lib.hid fun W' (e : Ext wa W') => join_calls d Ad cd W' (NN.out.ext e) hcd (by omega) (fun s hs => Nat.le_trans (DN.out s hs) (by decide))
    obtain ⟨here, hh⟩ : ∃ here, here = hereL A c t := ⟨_, rfl⟩
    have XH := Lib.hid (show ∀ j (h : j < here.length), xs[i0 + j]? = some (catL d here[j]) from fun j h => by
      subst hh
      have := XX.out j (by rw [List.length_append]; omega)
      rwa [List.getElem_append_left h] at this)
    gi_cut [25] from 26 (fun v25 wx => v25 = .bool false ∧ J (i0 + here.length) wx ∧ KB T w0.heap.size wa wx)
    case first =>
      by_cases hl : t.leaf = []
      · have e1 : decide (0 < t.leaf.length) = false := by rw [hl]; rfl
        have H0 := Lib.hid (show here = [] by rw [hh]; unfold hereL; rw [if_pos hl])
        clear hl f0
        refine wpIn_region_det_tail (r := none) (fun W' => Ext wa W') 14 (by kernel_rfl) (by kernel_rfl) (by kernel_rfl) (Ext.refl wa).drew ?_
        repeat (first
          | (refine det_step (fun K hK => ?_)
             apply Exists.intro
             refine ⟨Or.inl ⟨rfl, fun W hS => ?_⟩, ?_⟩
             · replace hS : Ext wa W := hS; have f0 := ((P1.out.ext hS).blk.cell 0).trans P1.out.c0
               go_simp
               first
               | exact rfl
               | exact ⟨rfl, hS⟩
               | (fail)
             go_simp
             refine hK _ ?_
             clear hK K)
          | (refine det_step (fun K hK => ?_); refine det_no' rfl ?_; go_simp; refine hK _ ?_; clear hK K))
        refine det_nil ?_
        intro W2 hW2
        have E2 := Lib.hid (show Ext wa W2 from hW2)
        clear hW2
        gi_wp2_with (refine ⟨fun _ _ => trivial, ?_⟩)
        gi_meet
        case rel =>
          rw [H0.out]
          exact ⟨rfl, JX.out _ _ _ JJ.out E2.out, KB.ext EW.out.size E2.out⟩
      · have e1 : decide (0 < t.leaf.length) = true := decide_eq_true (List.length_pos_iff.2 hl)
        have H1 := Lib.hid (show here = [(A, c, ([], t.leaf))] by rw [hh]; unfold hereL; rw [if_neg hl])
        clear hl f0
        refine wpIn_region_det_tail (r := none) (fun W' => Ext wa W') 14 (by kernel_rfl) (by kernel_rfl) (by kernel_rfl) (Ext.refl wa).drew ?_
        repeat (first
          | (refine det_step (fun K hK => ?_)
             apply Exists.intro
             refine ⟨Or.inl ⟨rfl, fun W hS => ?_⟩, ?_⟩
             · replace hS : Ext wa W := hS; have f0 := ((P1.out.ext hS).blk.cell 0).trans P1.out.c0
               go_simp
               first
               | exact rfl
               | exact ⟨rfl, hS⟩
               | (refine (JN.out W hS).mono ?_; rintro e w2 ⟨rfl, hb2⟩; exact ⟨rfl, hS.trans hb2⟩)
             go_simp
             refine hK _ ?_
             clear hK K)
          | (refine det_step (fun K hK => ?_); refine det_no' rfl ?_; go_simp; refine hK _ ?_; clear hK K))
        refine det_nil ?_
        intro W2 hW2
        have E2 := Lib.hid (show Ext wa W2 from hW2)
        clear hW2
        have hx1 := XH.out 0 (by rw [H1.out]; simp)
        simp only [H1.out, List.getElem_cons_zero, Nat.add_zero] at hx1
        have hi0 : i0 < xs.length := (List.getElem?_eq_some_iff.1 hx1).1
        have hx2 : xs[i0] = catL d (A, c, ([], t.leaf)) := (List.getElem?_eq_some_iff.1 hx1).2
        obtain ⟨fn, tmps, assign, body, hy, hR⟩ := YY.out i0 hi0 W2 (n - 1) (JX.out _ _ _ JJ.out E2.out)
        rw [hx2, encL, catL, List.append_nil] at hy
        have HR := Lib.hid hR
        clear hx1 hx2 hR
        gi_wp2
        refine ⟨(fun h => by cases h), ?_⟩
        refine HR.out.mono ?_
        rintro e W3 ⟨rfl, hJ3, hk3⟩
        have J3 := Lib.hid hJ3
        have K3 := Lib.hid ((KB.ext EW.out.size E2.out).trans hk3)
        clear hJ3 hk3 hy
        gi_wp2_with fail
        gi_meet
        case rel =>
          rw [H1.out]
          exact ⟨rfl, J3.out, K3.out⟩
    case rest =>
      obtain ⟨rfl, hj, hk⟩ := hcut
      obtain ⟨wb, hwb⟩ : ∃ wb, wb = wc := ⟨_, rfl⟩
      rw [← hwb] at hj hk ⊢
      clear hwb wc f0 JN XH
      have JB := Lib.hid hj
      have KBb := Lib.hid hk
      have EB := Lib.hid (show Ext w0 wb from J0.out _ _ hj)
      have P2 := Lib.hid (PP.out.ext EB.out)
      have f2 := (P2.out.blk.cell 2).trans P2.out.c2
      clear hj hk
      gi_wp2_with fail
      gi_loopw [31] (fun v31 wr => ∃ k : Nat, k ≤ t.kids.length ∧ v31 = .int .i64 k ∧ J (i0 + here.length + offL ms k) wr ∧ KB T w0.heap.size wa wr) (fun v31 _ => t.kids.length - (intOf v31).toNat)
      case atStart => exact ⟨0, Nat.zero_le _, rfl, by rw [show offL ms 0 = 0 by cases ms <;> rfl]; exact JB.out, KBb.out⟩
      case round =>
        obtain ⟨k, hk, rfl, hj, hkb⟩ := hrel
        have JR := Lib.hid hj
        have KR := Lib.hid hkb
        have ER := Lib.hid (show Ext w0 wr from J0.out _ _ hj)
        have P3 := Lib.hid (PP.out.ext ER.out)
        have DB := Lib.hid (DA.out.keep hT hkb)
        have DR := Lib.hid (show Nams wr Ad d by obtain ⟨A2, c2, e2, h2, _⟩ := DB.out.read; cases e2; exact h2)
        clear hj hkb f2
        by_cases hlt : k < t.kids.length
        · obtain ⟨cb, co, nb, no, rfl, rfl, q1, q2⟩ := P3.out.at k hlt
          have f1 := (P3.out.blk.cell 1).trans P3.out.c1
          have b1 : (k : Int) < (t.kids.length : Int) := by omega
          gi_wp2_with fail
          have NK := Lib.hid (Sp.name_len (Sp.kids_names t.kids (ok_rise OK.out).2 _ (List.getElem_mem hlt)))
          have KL := Lib.hid (show k + 1 ≤ t.kids.length by omega)
          have KM := Lib.hid (show t.kids.length - ((k : Int) + 1).toNat < t.kids.length - ((k : Nat) : Int).toNat by omega)
          have OS := Lib.hid (off_succ ms k (by omega))
          have SUB := Lib.hid (show ∀ j (h : j < (ms.getD k []).length), (hereL A c t ++ belowL t.kids ms)[here.length + (offL ms k + j)]? = some (preL (t.kids[k]).1 (ms.getD k [])[j]) from fun j h => by
            rw [← hh, List.getElem?_append_right (by omega), show here.length + (offL ms k + j) - here.length = offL ms k + j by omega]
            exact below_at _ _ _ hlt hm j h)
          have D1 := Lib.hid (show ∀ x ∈ ms.getD k [], (d ++ [(t.kids[k]).1]).length + x.2.2.1.length ≤ 60 from fun x hx => by
            obtain ⟨j, hj, rfl⟩ := List.getElem_of_mem hx
            have := HD.out _ (List.mem_of_getElem? (SUB.out j hj))
            rw [List.length_append, List.length_singleton]
            simp only [preL, List.length_cons] at this
            omega)
          have D2 := Lib.hid (show (d ++ [(t.kids[k]).1]).length ≤ 60 by
            have hne : ms.getD k [] ≠ [] := fun e => by
              have := list_entries (HK.out k hlt)
              rw [e] at this
              exact Sp.kids_some t.kids (ok_rise OK.out).2 _ (List.getElem_mem hlt) this.symm
            obtain ⟨x, hx⟩ := List.exists_mem_of_ne_nil _ hne
            have := D1.out x hx
            omega)
          have KF := Lib.hid (show ∀ n v W, DirAt W v (d ++ [(t.kids[k]).1]) → Ext wr W → CallsIn Fence.wide n Tryz.prog 152 #[.pointer (some ⟨gs.getD k 0, 0, none⟩), v, .func (.yield l) #[] #[]] W fun e W' => e = .returned (.bool true) ∧ J (i0 + here.length + offL ms k + (ms.getD k []).length) W' ∧ KB T w0.heap.size W W' from fun n v W hdw e =>
            IH.out k hlt n (d ++ [(t.kids[k]).1]) v l xs J (i0 + here.length + offL ms k) W (Sp.kid_ok t.kids _ _ (ok_rise OK.out).2 (Sp.kid_at t.kids k hlt (ok_rise OK.out).1)) (by
                have h1 := Sp.kid_size t.kids _ _ (Sp.kid_at t.kids k hlt (ok_rise OK.out).1)
                have h2 := Sp.sizeT_n0 t
                have h3 := SZ.out
                omega) JX.out J0.out YY.out
              (fun j hj => by
                have h1 := SUB.out j hj
                have h2 := XX.out (here.length + (offL ms k + j)) (List.getElem?_eq_some_iff.1 h1).1
                rw [(List.getElem?_eq_some_iff.1 h1).2, cat_pre] at h2
                rw [show i0 + here.length + offL ms k + j = i0 + (here.length + (offL ms k + j)) by omega]
                exact h2)
              D1.out D2.out (fun s hs => by
                rcases List.mem_append.1 hs with h | h
                · exact DN.out s h
                · obtain rfl := List.mem_singleton.1 h
                  exact NK.out) hdw (JX.out _ _ _ JR.out e))
          have F1 := Lib.hid f1
          have Q2 := Lib.hid q2
          have EC := Lib.hid (show Ext wr wr.drew from (Ext.refl wr).drew)
          have CL := Lib.hid fun W (e : Ext wr W) => cloneStr (strsC d) d.length cd Ad W (DR.out.ext e) (by simp [strsC]) (strs_one d) (by omega)
          clear f1 q1 q2
          refine wpIn_region_any (by kernel_rfl) ?_
          change wpAnyIn _ _ _ _ _ _ _ _ _ (World.drew _)
          refine wpAnyIn_take (i := 0) (v := ?_) rfl rfl (by kernel_rfl) (by kernel_rfl) (by kernel_rfl) (fun _ _ _ h => h) ⟨Or.inl ⟨by rfl, ?_⟩, fun _ => rfl⟩ ?_
          rotate_left
          · (intro w; go_simp; first | done | with_reducible rfl)
          refine wpAnyIn_take (i := 1) (v := ?_) rfl rfl (by kernel_rfl) (by kernel_rfl) (by kernel_rfl) (fun _ _ _ h => h) ⟨Or.inl ⟨by rfl, ?_⟩, fun _ => rfl⟩ ?_
          rotate_left
          · (intro w; go_simp; first | done | with_reducible rfl)
          refine wpAnyIn_take (i := 3) (v := ?_) rfl rfl (by kernel_rfl) (by kernel_rfl) (by kernel_rfl) (fun _ _ _ h => h) ⟨Or.inl ⟨by rfl, ?_⟩, fun _ => rfl⟩ ?_
          rotate_left
          · (intro w; go_simp; first | done | with_reducible rfl)
          refine wpAnyIn_take (i := 4) (v := ?_) rfl rfl (by kernel_rfl) (by kernel_rfl) (by kernel_rfl) (fun _ _ _ h => h) ⟨Or.inl ⟨by rfl, ?_⟩, fun _ => rfl⟩ ?_
          rotate_left
          · (intro w; go_simp; first | done | with_reducible rfl)
          refine wpAnyIn_take (i := 5) (v := ?_) rfl rfl (by kernel_rfl) (by kernel_rfl) (by kernel_rfl) (fun _ _ _ h => h) ⟨Or.inl ⟨by rfl, ?_⟩, fun _ => rfl⟩ ?_
          rotate_left
          · (intro w; go_simp; first | done | with_reducible rfl)
          refine wpAnyIn_take (i := 7) (v := ?_) rfl rfl (by kernel_rfl) (by kernel_rfl) (by kernel_rfl) (fun _ _ _ h => h) ⟨Or.inl ⟨by rfl, ?_⟩, fun _ => rfl⟩ ?_
          rotate_left
          · (intro w; go_simp; first | done | with_reducible rfl)
          refine wpAnyIn_take (i := 12) (v := ?_) rfl rfl (by kernel_rfl) (by kernel_rfl) (by kernel_rfl) (fun _ _ _ h => h) ⟨Or.inl ⟨by rfl, ?_⟩, fun _ => rfl⟩ ?_
          rotate_left
          · (intro w; go_simp; first | done | with_reducible rfl)
          refine wpAnyIn_ready (rs := [2, 6]) (by kernel_rfl) (by simp) ?_
          refine AllReadyIn.cons rfl (fun K hK => ?_) ?_
          · go_simp
            refine ⟨trivial, (fun h => by cases h), callsIn_of ((CL.out _ EC.out).mono ?_)⟩
            rintro e wv ⟨v38, rfl, ho, hb⟩
            have HO := Lib.hid (own_low ho (show wr.heap.size ≤ _ by simp))
            have EC := Lib.hid (show Ext wr wv from EC.out.trans hb)
            try have BC := Lib.hid (hb.cell (cell_new _ (.string (strOf (t.kids[k]).1)) 9))
            clear ho hb
            refine hK _ _ ?_
            clear hK K
            refine wpAnyIn_ready (rs := [6]) (by kernel_rfl) (by simp) ?_
            refine AllReadyIn.cons rfl (fun K hK => ?_) ?_
            · go_simp
              have f1 := EC.out.cell F1.out
              have f1b := F1.out
              go_simp
              refine hK _ _ ?_
              clear hK K
              clear f1 f1b
              refine wpAnyIn_take (i := 8) (v := ?_) rfl rfl (by kernel_rfl) (by kernel_rfl) (by kernel_rfl) (fun _ _ _ h => h) ⟨Or.inl ⟨by rfl, ?_⟩, fun _ => rfl⟩ ?_
              rotate_left
              · (intro w; go_simp; first | done | with_reducible rfl)
              refine wpAnyIn_ready (rs := [9]) (by kernel_rfl) (by simp) ?_
              refine AllReadyIn.cons rfl (fun K hK => ?_) ?_
              · go_simp
                have q2 := EC.out.cell Q2.out
                have q2b := Q2.out
                go_simp
                refine hK _ _ ?_
                clear hK K
                clear q2 q2b
                refine wpAnyIn_ready (rs := [10]) (by kernel_rfl) (by simp) ?_
                refine AllReadyIn.cons rfl (fun K hK => ?_) ?_
                · go_simp
                  have EC := Lib.hid (show Ext wr _ from EC.out.trans (Ext.alloc _ (.cells #[.string (strOf (t.kids[k]).1)] 9)))
                  refine hK _ _ ?_
                  clear hK K
                  refine wpAnyIn_ready (rs := [11]) (by kernel_rfl) (by simp) ?_
                  refine AllReadyIn.cons rfl (fun K hK => ?_) ?_
                  · refine if_then (by rfl) ?_
                    refine step_of_list (ops := #[]) (by rfl) ?_
                    refine appIn_one appStr rfl _ _ rfl wr.heap.size v38 d.length (strsC d) rfl (by first | exact HO.out | exact own_ext HO.out (Ext.alloc _ _)) _ (.string (strOf (t.kids[k]).1)) rfl (by first | exact BC.out | exact cell_new _ _ _) rfl (by omega) (by have := EC.out.size; simpa using this) ?_
                    intro g9 cap9 w9 hown9 hgr9 hb9
                    have ED := Lib.hid (show DirAt w9 (.slice (some ⟨g9, 0, none⟩) (d.length + 1) cap9) (d ++ [(t.kids[k]).1]) from ⟨_, by rw [List.length_append, List.length_singleton, strsC, List.map_append]; exact hown9⟩)
                    have E9 := Lib.hid (show Ext wr w9 from EC.out.grown hgr9 EC.out.size (fun k e => (HO.out.lt k e).1))
                    clear hown9 hgr9 hb9
                    refine hK _ _ ?_
                    clear hK K
                    refine wpAnyIn_ready (rs := [13]) (by kernel_rfl) (by simp) ?_
                    refine AllReadyIn.cons rfl (fun K hK => ?_) ?_
                    · go_simp
                      refine ⟨trivial, (fun h => by cases h), (KF.out (n - 1) _ w9 ED.out E9.out).mono ?_⟩
                      rintro e w10 ⟨rfl, hj10, hk10⟩
                      have J10 := Lib.hid hj10
                      have K10 := Lib.hid (show KB T w0.heap.size wa w10 from (KR.out.trans (KB.ext ER.out.size E9.out)).trans hk10)
                      clear hj10 hk10
                      refine hK _ _ ?_
                      clear hK K
                      refine wpAnyIn_ready (rs := [14]) (by kernel_rfl) (by simp) ?_
                      refine AllReadyIn.cons rfl (fun K hK => ?_) ?_
                      · go_simp
                        refine hK _ _ ?_
                        clear hK K
                        refine wpAnyIn_done (by kernel_rfl) ?_ _
                        gi_wp2_with fail
                        refine ⟨⟨k + 1, KL.out, by go_num, by have := J10.out; rwa [Nat.add_assoc, ← OS.out] at this, K10.out⟩, by simp [intOf]; omega⟩
                      exact AllReadyIn.nil
                    exact AllReadyIn.nil
                  exact AllReadyIn.nil
                exact AllReadyIn.nil
              exact AllReadyIn.nil
            exact AllReadyIn.nil
          refine AllReadyIn.cons rfl (fun K hK => ?_) ?_
          · go_simp
            have f1 := EC.out.cell F1.out
            have f1b := F1.out
            go_simp
            refine hK _ _ ?_
            clear hK K
            clear f1 f1b
            refine wpAnyIn_take (i := 8) (v := ?_) rfl rfl (by kernel_rfl) (by kernel_rfl) (by kernel_rfl) (fun _ _ _ h => h) ⟨Or.inl ⟨by rfl, ?_⟩, fun _ => rfl⟩ ?_
            rotate_left
            · (intro w; go_simp; first | done | with_reducible rfl)
            refine wpAnyIn_ready (rs := [2, 9]) (by kernel_rfl) (by simp) ?_
            refine AllReadyIn.cons rfl (fun K hK => ?_) ?_
            · go_simp
              refine ⟨trivial, (fun h => by cases h), callsIn_of ((CL.out _ EC.out).mono ?_)⟩
              rintro e wv ⟨v38, rfl, ho, hb⟩
              have HO := Lib.hid (own_low ho (show wr.heap.size ≤ _ by simp))
              have EC := Lib.hid (show Ext wr wv from EC.out.trans hb)
              try have BC := Lib.hid (hb.cell (cell_new _ (.string (strOf (t.kids[k]).1)) 9))
              clear ho hb
              refine hK _ _ ?_
              clear hK K
              refine wpAnyIn_ready (rs := [9]) (by kernel_rfl) (by simp) ?_
              refine AllReadyIn.cons rfl (fun K hK => ?_) ?_
              · go_simp
                have q2 := EC.out.cell Q2.out
                have q2b := Q2.out
                go_simp
                refine hK _ _ ?_
                clear hK K
                clear q2 q2b
                refine wpAnyIn_ready (rs := [10]) (by kernel_rfl) (by simp) ?_
                refine AllReadyIn.cons rfl (fun K hK => ?_) ?_
                · go_simp
                  have EC := Lib.hid (show Ext wr _ from EC.out.trans (Ext.alloc _ (.cells #[.string (strOf (t.kids[k]).1)] 9)))
                  refine hK _ _ ?_
                  clear hK K
                  refine wpAnyIn_ready (rs := [11]) (by kernel_rfl) (by simp) ?_
                  refine AllReadyIn.cons rfl (fun K hK => ?_) ?_
                  · refine if_then (by rfl) ?_
                    refine step_of_list (ops := #[]) (by rfl) ?_
                    refine appIn_one appStr rfl _ _ rfl wr.heap.size v38 d.length (strsC d) rfl (by first | exact HO.out | exact own_ext HO.out (Ext.alloc _ _)) _ (.string (strOf (t.kids[k]).1)) rfl (by first | exact BC.out | exact cell_new _ _ _) rfl (by omega) (by have := EC.out.size; simpa using this) ?_
                    intro g9 cap9 w9 hown9 hgr9 hb9
                    have ED := Lib.hid (show DirAt w9 (.slice (some ⟨g9, 0, none⟩) (d.length + 1) cap9) (d ++ [(t.kids[k]).1]) from ⟨_, by rw [List.length_append, List.length_singleton, strsC, List.map_append]; exact hown9⟩)
                    have E9 := Lib.hid (show Ext wr w9 from EC.out.grown hgr9 EC.out.size (fun k e => (HO.out.lt k e).1))
                    clear hown9 hgr9 hb9
                    refine hK _ _ ?_
                    clear hK K
                    refine wpAnyIn_ready (rs := [13]) (by kernel_rfl) (by simp) ?_
                    refine AllReadyIn.cons rfl (fun K hK => ?_) ?_
                    · go_simp
                      refine ⟨trivial, (fun h => by cases h), (KF.out (n - 1) _ w9 ED.out E9.out).mono ?_⟩
                      rintro e w10 ⟨rfl, hj10, hk10⟩
                      have J10 := Lib.hid hj10
                      have K10 := Lib.hid (show KB T w0.heap.size wa w10 from (KR.out.trans (KB.ext ER.out.size E9.out)).trans hk10)
                      clear hj10 hk10
                      refine hK _ _ ?_
                      clear hK K
                      refine wpAnyIn_ready (rs := [14]) (by kernel_rfl) (by simp) ?_
                      refine AllReadyIn.cons rfl (fun K hK => ?_) ?_
                      · go_simp
                        refine hK _ _ ?_
                        clear hK K
                        refine wpAnyIn_done (by kernel_rfl) ?_ _
                        gi_wp2_with fail
                        refine ⟨⟨k + 1, KL.out, by go_num, by have := J10.out; rwa [Nat.add_assoc, ← OS.out] at this, K10.out⟩, by simp [intOf]; omega⟩
                      exact AllReadyIn.nil
                    exact AllReadyIn.nil
                  exact AllReadyIn.nil
                exact AllReadyIn.nil
              exact AllReadyIn.nil
            refine AllReadyIn.cons rfl (fun K hK => ?_) ?_
            · go_simp
              have q2 := EC.out.cell Q2.out
              have q2b := Q2.out
              go_simp
              refine hK _ _ ?_
              clear hK K
              clear q2 q2b
              refine wpAnyIn_ready (rs := [2, 10]) (by kernel_rfl) (by simp) ?_
              refine AllReadyIn.cons rfl (fun K hK => ?_) ?_
              · go_simp
                refine ⟨trivial, (fun h => by cases h), callsIn_of ((CL.out _ EC.out).mono ?_)⟩
                rintro e wv ⟨v38, rfl, ho, hb⟩
                have HO := Lib.hid (own_low ho (show wr.heap.size ≤ _ by simp))
                have EC := Lib.hid (show Ext wr wv from EC.out.trans hb)
                try have BC := Lib.hid (hb.cell (cell_new _ (.string (strOf (t.kids[k]).1)) 9))
                clear ho hb
                refine hK _ _ ?_
                clear hK K
                refine wpAnyIn_ready (rs := [10]) (by kernel_rfl) (by simp) ?_
                refine AllReadyIn.cons rfl (fun K hK => ?_) ?_
                · go_simp
                  have EC := Lib.hid (show Ext wr _ from EC.out.trans (Ext.alloc _ (.cells #[.string (strOf (t.kids[k]).1)] 9)))
                  refine hK _ _ ?_
                  clear hK K
                  refine wpAnyIn_ready (rs := [11]) (by kernel_rfl) (by simp) ?_
                  refine AllReadyIn.cons rfl (fun K hK => ?_) ?_
                  · refine if_then (by rfl) ?_
                    refine step_of_list (ops := #[]) (by rfl) ?_
                    refine appIn_one appStr rfl _ _ rfl wr.heap.size v38 d.length (strsC d) rfl (by first | exact HO.out | exact own_ext HO.out (Ext.alloc _ _)) _ (.string (strOf (t.kids[k]).1)) rfl (by first | exact BC.out | exact cell_new _ _ _) rfl (by omega) (by have := EC.out.size; simpa using this) ?_
                    intro g9 cap9 w9 hown9 hgr9 hb9
                    have ED := Lib.hid (show DirAt w9 (.slice (some ⟨g9, 0, none⟩) (d.length + 1) cap9) (d ++ [(t.kids[k]).1]) from ⟨_, by rw [List.length_append, List.length_singleton, strsC, List.map_append]; exact hown9⟩)
                    have E9 := Lib.hid (show Ext wr w9 from EC.out.grown hgr9 EC.out.size (fun k e => (HO.out.lt k e).1))
                    clear hown9 hgr9 hb9
                    refine hK _ _ ?_
                    clear hK K
                    refine wpAnyIn_ready (rs := [13]) (by kernel_rfl) (by simp) ?_
                    refine AllReadyIn.cons rfl (fun K hK => ?_) ?_
                    · go_simp
                      refine ⟨trivial, (fun h => by cases h), (KF.out (n - 1) _ w9 ED.out E9.out).mono ?_⟩
                      rintro e w10 ⟨rfl, hj10, hk10⟩
                      have J10 := Lib.hid hj10
                      have K10 := Lib.hid (show KB T w0.heap.size wa w10 from (KR.out.trans (KB.ext ER.out.size E9.out)).trans hk10)
                      clear hj10 hk10
                      refine hK _ _ ?_
                      clear hK K
                      refine wpAnyIn_ready (rs := [14]) (by kernel_rfl) (by simp) ?_
                      refine AllReadyIn.cons rfl (fun K hK => ?_) ?_
                      · go_simp
                        refine hK _ _ ?_
                        clear hK K
                        refine wpAnyIn_done (by kernel_rfl) ?_ _
                        gi_wp2_with fail
                        refine ⟨⟨k + 1, KL.out, by go_num, by have := J10.out; rwa [Nat.add_assoc, ← OS.out] at this, K10.out⟩, by simp [intOf]; omega⟩
                      exact AllReadyIn.nil
                    exact AllReadyIn.nil
                  exact AllReadyIn.nil
                exact AllReadyIn.nil
              refine AllReadyIn.cons rfl (fun K hK => ?_) ?_
              · go_simp
                have EC := Lib.hid (show Ext wr _ from EC.out.trans (Ext.alloc _ (.cells #[.string (strOf (t.kids[k]).1)] 9)))
                refine hK _ _ ?_
                clear hK K
                refine wpAnyIn_ready (rs := [2]) (by kernel_rfl) (by simp) ?_
                refine AllReadyIn.cons rfl (fun K hK => ?_) ?_
                · go_simp
                  refine ⟨trivial, (fun h => by cases h), callsIn_of ((CL.out _ EC.out).mono ?_)⟩
                  rintro e wv ⟨v38, rfl, ho, hb⟩
                  have HO := Lib.hid (own_low ho (show wr.heap.size ≤ _ by simp))
                  have EC := Lib.hid (show Ext wr wv from EC.out.trans hb)
                  try have BC := Lib.hid (hb.cell (cell_new _ (.string (strOf (t.kids[k]).1)) 9))
                  clear ho hb
                  refine hK _ _ ?_
                  clear hK K
                  refine wpAnyIn_ready (rs := [11]) (by kernel_rfl) (by simp) ?_
                  refine AllReadyIn.cons rfl (fun K hK => ?_) ?_
                  · refine if_then (by rfl) ?_
                    refine step_of_list (ops := #[]) (by rfl) ?_
                    refine appIn_one appStr rfl _ _ rfl wr.heap.size v38 d.length (strsC d) rfl (by first | exact HO.out | exact own_ext HO.out (Ext.alloc _ _)) _ (.string (strOf (t.kids[k]).1)) rfl (by first | exact BC.out | exact cell_new _ _ _) rfl (by omega) (by have := EC.out.size; simpa using this) ?_
                    intro g9 cap9 w9 hown9 hgr9 hb9
                    have ED := Lib.hid (show DirAt w9 (.slice (some ⟨g9, 0, none⟩) (d.length + 1) cap9) (d ++ [(t.kids[k]).1]) from ⟨_, by rw [List.length_append, List.length_singleton, strsC, List.map_append]; exact hown9⟩)
                    have E9 := Lib.hid (show Ext wr w9 from EC.out.grown hgr9 EC.out.size (fun k e => (HO.out.lt k e).1))
                    clear hown9 hgr9 hb9
                    refine hK _ _ ?_
                    clear hK K
                    refine wpAnyIn_ready (rs := [13]) (by kernel_rfl) (by simp) ?_
                    refine AllReadyIn.cons rfl (fun K hK => ?_) ?_
                    · go_simp
                      refine ⟨trivial, (fun h => by cases h), (KF.out (n - 1) _ w9 ED.out E9.out).mono ?_⟩
                      rintro e w10 ⟨rfl, hj10, hk10⟩
                      have J10 := Lib.hid hj10
                      have K10 := Lib.hid (show KB T w0.heap.size wa w10 from (KR.out.trans (KB.ext ER.out.size E9.out)).trans hk10)
                      clear hj10 hk10
                      refine hK _ _ ?_
                      clear hK K
                      refine wpAnyIn_ready (rs := [14]) (by kernel_rfl) (by simp) ?_
                      refine AllReadyIn.cons rfl (fun K hK => ?_) ?_
                      · go_simp
                        refine hK _ _ ?_
                        clear hK K
                        refine wpAnyIn_done (by kernel_rfl) ?_ _
                        gi_wp2_with fail
                        refine ⟨⟨k + 1, KL.out, by go_num, by have := J10.out; rwa [Nat.add_assoc, ← OS.out] at this, K10.out⟩, by simp [intOf]; omega⟩
                      exact AllReadyIn.nil
                    exact AllReadyIn.nil
                  exact AllReadyIn.nil
                exact AllReadyIn.nil
              exact AllReadyIn.nil
            exact AllReadyIn.nil
          exact AllReadyIn.nil
        · obtain rfl : k = t.kids.length := by omega
          have JE := JR.out
          have e2 : (hereL A c t ++ belowL t.kids ms).length = here.length + offL ms t.kids.length := by
            rw [List.length_append, ← hh, below_len _ _ hm, hm]
          have E2 := Lib.hid e2
          clear e2
          gi_wp2_with fail
          go_ret
          exact ⟨rfl, by rw [E2.out, ← Nat.add_assoc]; exact JE, KR.out⟩
end Go.Proofs.YtmlfnidckfeebaaGreatDoor
