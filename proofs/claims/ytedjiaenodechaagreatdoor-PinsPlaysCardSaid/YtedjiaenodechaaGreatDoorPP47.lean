/- Walks: the document's pins: Find. Walks: the document's pins: Put. -/
import Derived.Test.YtedjiaenodechaaGreatDoorPP46
import Derived.Test.YtedjiaenodechaaGreatDoorPP27
import Derived.Test.YtedjiaenodechaaGreatDoorPP34
namespace Go.Proofs.YtedjiaenodechaaGreatDoor
open Go.RowKit Go.Shelf
attribute [local go_sem] yUpon strOf_toList
def rK (d : Sp.Bs) (q : List RPin) : Option Nat := q.findIdx? fun x => x.1 == d
def rtouch (n : Int) (x : RPin) : RPin := (x.1, x.2.1, n)
def rfindL (d : Sp.Bs) (n : Int) (l : List RPin) : List RPin := match rK d (roldS n l) with | some k => (roldS n l).modify k (rtouch n) | none => roldS n l
def rfindI (d : Sp.Bs) (n : Int) (l : List RPin) : Int := match rK d (roldS n l) with | some k => (((roldS n l)[k]?).map (·.2.1)).getD 0 | none => -1
theorem rpsC_mod (n : Int) : ∀ (l : List RPin) (k : Nat), k < l.length → ROk l → (rpsC l).set (k * 34 + 33) (.int .i64 n) = rpsC (l.modify k (rtouch n))
  | x :: r, 0, _, h => by
    have e := rpL_len x (h x (List.mem_cons_self ..)).1
    have e1 := (h x (List.mem_cons_self ..)).1
    rw [rpsC, Nat.zero_mul, Nat.zero_add, List.set_append_left _ _ (by rw [e]; decide)]
    show _ = rpL (rtouch n x) ++ rpsC r
    congr 1
    rw [rpL, List.set_append_right _ _ (by simp [e1])]
    simp [e1, rpL, rtouch]
  | x :: r, k + 1, hk, h => by
    have e := rpL_len x (h x (List.mem_cons_self ..)).1
    have ih := rpsC_mod n r k (by simpa using hk) (fun y hy => h y (List.mem_cons_of_mem _ hy))
    rw [rpsC, List.set_append_right _ _ (by rw [e]; omega), e, show (k + 1) * 34 + 33 - 34 = k * 34 + 33 by omega, ih]
    rfl
theorem rK_some {d : Sp.Bs} {q : List RPin} {k : Nat} (h : k < q.length) (h1 : (q[k]).1 = d) (h2 : ∀ i (hi : i < q.length), i < k → (q[i]).1 ≠ d) : rK d q = some k := by
  unfold rK
  rw [List.findIdx?_eq_some_iff_getElem]
  exact ⟨h, by simpa using h1, fun j hj => by simpa using h2 j (by omega) hj⟩
theorem rK_none {d : Sp.Bs} {q : List RPin} (h2 : ∀ i (hi : i < q.length), (q[i]).1 ≠ d) : rK d q = none := by
  unfold rK
  rw [List.findIdx?_eq_none_iff]
  intro x hx
  obtain ⟨i, hi, rfl⟩ := List.getElem_of_mem hx
  simpa using h2 i hi
theorem roldS_ok {n : Int} {l : List RPin} (h : ROk l) : ROk (roldS n l) := fun x hx => h x (List.mem_filter.1 hx).1
set_option maxRecDepth 100000 in
set_option maxHeartbeats 4000000 in
theorem rfind_calls (l : List RPin) (A : Option Addr) (cap : Nat) (d : Sp.Bs) (hd : d.length = 32) (now : Int) (w : World) (h : Cells w A (rpsC l)) (ok : ROk l) (hl : l.length ≤ 1000) :
    Calls Tryz.prog 32 #[.slice A l.length cap, digV d, .int .i64 now] w fun e w' => ∃ v, e = .returned (.tuple #[v, .int .i64 (rfindI d (clampS now) l)]) ∧ w'.ownsRow w.heap.size 115 34 v (rfindL d (clampS now) l).length (rpsC (rfindL d (clampS now) l)) ∧ Ext w w' := by
  have OC := Lib.hid fun (W : World) (e : Ext w W) => rold_calls l A cap now W (h.ext e) ok hl
  obtain ⟨n, hn⟩ : ∃ n, n = clampS now := ⟨_, rfl⟩
  have TN := Lib.hid (show Tm n by rw [hn]; exact clamp_tm now)
  have CC := Lib.hid (show ∀ w, Calls Tryz.prog 34 #[.int .i64 now] w fun e w' => e = .returned (.int .i64 n) ∧ w = w' from fun w => by rw [hn, ← clamp_same]; exact rclamp_calls now w)
  rw [← hn] at OC ⊢
  obtain ⟨q, hq⟩ : ∃ q, q = roldS n l := ⟨_, rfl⟩
  have QO := Lib.hid (show ROk q by rw [hq]; exact roldS_ok ok)
  have QL := Lib.hid (show q.length ≤ 1000 by rw [hq]; exact Nat.le_trans (List.length_filter_le _ _) hl)
  have FL := Lib.hid (show rfindL d n l = (match rK d q with | some k => q.modify k (rtouch n) | none => q) by rw [hq]; rfl)
  have FI := Lib.hid (show rfindI d n l = (match rK d q with | some k => ((q[k]?).map (·.2.1)).getD 0 | none => -1) by rw [hq]; rfl)
  rw [← hq] at OC
  have DL := Lib.hid (show (d.map byteV).length = 32 by rw [List.length_map, hd])
  have DM := Lib.hid (show (d.map byteV).toArray = digC d from rfl)
  have DD := Lib.hid hd
  have tok1 : True := trivial
  clear h ok hn hq hd
  go_enter Tryz.func32, Tryz.ntmps32
  go_wp2_with (have _t := tok1; ((with_reducible refine at_box (t := 41) rfl ?_); refine box_new rfl (cs := digC d) (t := 41) (by first | (go_simp; done) | (go_simp; rfl)) ?_; intro g2 w2 hg2 hx2 hb2; have X2 := Lib.hid hx2; have B2 := Lib.hid (show Ext w w2 from hb2); clear tok1 _t hx2 hb2 hg2))
  refine (OC.out w2 B2.out).mono ?_
  rintro e w3 ⟨v3, rfl, hO3, hb3⟩
  obtain ⟨A3, c3, rfl, _⟩ := own_read hO3
  have O3 := Lib.hid hO3
  have X3 := Lib.hid (X2.out.below hb3)
  have E3 := Lib.hid (B2.out.trans hb3)
  have Z3 := Lib.hid (show Ext w2 w3 from hb3)
  have RG := Lib.hid (show ∀ W, Ext w3 W → W.rangeAt g2 0 (d.map byteV) from fun W e j u hj => by
    rw [Nat.zero_add, (X3.out.below e).cell j]
    simpa [digC] using hj)
  clear hO3 hb3
  have ql := QL.out
  go_wp2
  go_loopw [9] (fun v9 wr => ∃ k : Nat, k ≤ q.length ∧ v9 = .int .i64 k ∧ (∀ i (h : i < q.length), i < k → (q[i]).1 ≠ d) ∧ Ext w3 wr) (fun v9 _ => q.length - (intOf v9).toNat)
  case atStart => exact ⟨0, Nat.zero_le _, rfl, fun i _ h => absurd h (Nat.not_lt_zero i), Ext.refl _⟩
  case round =>
    obtain ⟨k, hk, rfl, hne, hb⟩ := hrel
    by_cases hlt : k < q.length
    · obtain ⟨a, c4, e4, hBa⟩ := owned_form O3.out (by omega)
      cases e4
      have OW := Lib.hid (own_ext O3.out hb)
      have hxo := QO.out _ (List.getElem_mem hlt)
      have r0 := rpsC_get q k hlt QO.out
      have n0 := rpL_num (q[k]) hxo.1
      have RX := Lib.hid (show ∀ W, Ext wr W → W.rangeAt a (k * 34) ((q[k]).1.map byteV) from fun W e j u hj => by
        have hj2 : (rpL q[k])[j]? = some u := by rw [rpL, List.getElem?_append_left (List.getElem?_eq_some_iff.1 hj).1]; exact hj
        exact (own_isBlk (own_ext OW.out e) (k * 34 + j) u (r0 j u hj2)).1)
      have MC := Lib.hid (rpsC_mod n q k hlt QO.out)
      have LC := Lib.hid (show k * 34 + 33 < (rpsC q).length by rw [rpsC_len q QO.out]; omega)
      have C33 := Lib.hid (r0 33 _ n0.2)
      have C32 := Lib.hid (r0 32 _ n0.1)
      have UK := Lib.hid (show (q[k]).1 = d → rK d q = some k from fun h => rK_some hlt h hne)
      have NE := Lib.hid hne
      have GK := Lib.hid (show ((q[k]?).map (·.2.1)).getD 0 = (q[k]).2.1 by simp [hlt])
      obtain ⟨x, hxk⟩ : ∃ x, x = q[k] := ⟨_, rfl⟩
      rw [← hxk] at hxo RX C33 C32 UK GK
      have NK := Lib.hid (show x.1 ≠ d → ∀ i (h : i < q.length), i < k + 1 → (q[i]).1 ≠ d from fun hh i h1 h2 => by
        by_cases hik : i = k
        · subst hik
          rw [← hxk]; exact hh
        · exact NE.out i h1 (by omega))
      have XL := Lib.hid (show (x.1.map byteV).length = 32 by rw [List.length_map]; exact hxo.1)
      have XM := Lib.hid (show (x.1.map byteV).toArray = digC x.1 from rfl)
      have hq1 := fun W => dig_eqv x.1 d hxo.1 DD.out W
      have hg := dig_guard
      have EW := Lib.hid hb
      have b1 : (k : Int) < (q.length : Int) := by omega
      clear hne hxk hb r0 n0 hxo
      go_wp2_with fail
      refine wp_region_det (fun W => Ext wr W) (by kernel_rfl) (by kernel_rfl) (Ext.refl wr).drew ?_
      repeat (first
        | (refine det_step (fun K hK => ?_); (first | (refine det_load_mid rfl 41 (.tmp 22) rfl a (k * 34) rfl (x.1.map byteV) _ (fun W hS => RX.out W hS) Tryz.underlying41 rfl (by rw [XL.out]; kernel_rfl) ?_; rw [XM.out]) | (refine det_load_mid rfl 41 (.tmp 4) rfl g2 0 rfl (d.map byteV) _ (fun W hS => RG.out W (EW.out.trans hS)) Tryz.underlying41 rfl (by rw [DL.out]; kernel_rfl) ?_; rw [DM.out])); go_simp; refine hK _ ?_; clear hK K)
        | (refine det_step (fun K hK => ?_)
           apply Exists.intro
           refine ⟨Or.inl ⟨rfl, fun W hS => ?_⟩, ?_⟩
           · replace hS : Ext wr W := hS
             go_simp
             first
             | exact rfl
             | exact ⟨rfl, hS⟩
             | (fail)
           go_simp
           refine hK _ ?_
           clear hK K)
        | (refine det_step (fun K hK => ?_); refine det_no' rfl ?_; go_simp; refine hK _ ?_; clear hK K))
      refine det_nil ?_
      intro W9 hS
      replace hS : Ext wr W9 := hS
      have O9 := Lib.hid (own_ext OW.out hS)
      have E9 := Lib.hid (EW.out.trans hS)
      clear hS
      go_wp2_with fail
      · have hdd : (x.1 == d) = true := by assumption
        have UK2 := Lib.hid (UK.out (by simpa using hdd))
        have FI2 := Lib.hid (show rfindI d n l = x.2.1 by rw [FI.out, UK2.out]; exact GK.out)
        have FL2 := Lib.hid (show rfindL d n l = q.modify k (rtouch n) by rw [FL.out, UK2.out])
        obtain ⟨z33, y33, _, _⟩ := own_isBlk O9.out (k * 34 + 33) _ C33.out
        refine (CC.out W9).mono ?_
        rintro e w' ⟨rfl, rfl⟩
        go_upto_region 7 with fail
        obtain ⟨w10, hw10⟩ : ∃ w10, w10 = W9.setCell ⟨a, k * 34 + 33, none⟩ (.int .i64 n) := ⟨_, rfl⟩
        have O10 := Lib.hid (show w10.ownsRow w2.heap.size 115 34 (.slice (some ⟨a, 0, none⟩) q.length c3) q.length (rpsC (q.modify k (rtouch n))) by
          rw [hw10, ← MC.out]
          exact own_set O9.out (k * 34 + 33) LC.out _)
        have E10 := Lib.hid (show Below w2.heap.size w2 w10 by
          rw [hw10]
          exact Below.trans (Below.trans ⟨rfl, rfl, rfl, Nat.le_refl _, fun _ _ => rfl⟩ (show Below w2.heap.size w2 W9 from Ext.trans (show Ext w2 w3 from Z3.out) E9.out)) ((Below.refl _ _).setCell hBa _))
        have D32 := Lib.hid (show (rpsC (q.modify k (rtouch n)))[k * 34 + 32]? = some (.int .i64 x.2.1) by
          rw [← MC.out, List.getElem?_set_ne (by omega)]
          exact C32.out)
        obtain ⟨z32, _, _, _⟩ := own_isBlk O10.out (k * 34 + 32) _ D32.out
        have Z32 := Lib.hid z32
        rw [← hw10]
        clear hw10 z33 y33 z32
        go_wp2_with fail
        refine wp_region_det (fun W => W = w10.drew) (by kernel_rfl) (by kernel_rfl) rfl ?_
        repeat (first
          | (refine det_step (fun K hK => ?_)
             apply Exists.intro
             refine ⟨Or.inl ⟨rfl, fun W hS => ?_⟩, ?_⟩
             · obtain rfl : W = w10.drew := hS; have z0 := (show w10.drew.cell? _ = _ from Z32.out)
               go_simp
               first
               | exact rfl
               | exact ⟨rfl, hS⟩
               | (fail)
             go_simp
             refine hK _ ?_
             clear hK K)
          | (refine det_step (fun K hK => ?_); refine det_no' rfl ?_; go_simp; refine hK _ ?_; clear hK K))
        refine det_nil ?_
        rintro W11 rfl
        go_wp2_with fail
        go_ret2
        refine ⟨_, by rw [FI2.out]; rfl, ?_, Below.trans B2.out (E10.out.mono B2.out.size).drew⟩
        rw [FL2.out, List.length_modify]
        exact own_lowT O10.out B2.out.size
      · rename_i hdd
        have NK2 := Lib.hid (NK.out (by simpa using hdd))
        go_roundw
        case rel => exact ⟨k + 1, by omega, by go_num, NK2.out, E9.out⟩
        case measure => simp [intOf]; omega
    · obtain rfl : k = q.length := by omega
      have UN := Lib.hid (rK_none (fun i h => hne i h h))
      have EW := Lib.hid hb
      clear hne hb
      go_wp2
      go_ret2
      refine ⟨_, by rw [FI.out, UN.out]; rfl, ?_, E3.out.trans EW.out⟩
      rw [FL.out, UN.out]
      exact own_lowT (own_ext O3.out EW.out) B2.out.size
end Go.Proofs.YtedjiaenodechaaGreatDoor
namespace Go.Proofs.YtedjiaenodechaaGreatDoor
open Go.RowKit Go.Shelf
attribute [local go_sem] yUpon strOf_toList
section
variable {P : Program} {ops : Array Oper}
theorem list_build {rest : List Oper} {o : Oper} {a : Act} {w : World} {Q : Exit → Act → World → Prop} (hg : o.guard = none) (t : TypeId) (parts : Array (Nat × Operand)) (ho : o.op = .build t parts) (cells : Array Value)
    (hb : P.built t (parts.map fun (i, x) => (i, a.eval x)).toList = some cells) (h : wpList P ops Q rest (a.put o.dst (.agg cells)) w) : wpList P ops Q (o :: rest) a w :=
  wpList_plain hg fun K hK => by
    unfold Oper.wp execOp
    simp only [ho, Sem.run_bind, run_build w t _ cells hb, Result.andThen_ok, Sem.run_pure]
    exact hK _ _ h
/-- For an arm of the walk's: this operation builds a struct. -/
theorem at_build {rest : List Oper} {o : Oper} {a : Act} {w : World} {Q : Exit → Act → World → Prop} {t : TypeId} {ps : Array (Nat × Operand)} (_ho : o.op = .build t ps) (h : wpList P ops Q (o :: rest) a w) : wpList P ops Q (o :: rest) a w := h
/-- Appending what is read, as one step of a region that draws. -/
theorem step_app_cells {o : Oper} {a : Act} {w : World} {K : Act → World → Prop} {Q : Exit → Act → World → Prop} {E : Prop} {t e : TypeId} {size bytes : Nat} (hst : AppStat P t e size bytes) (hg : o.guard = none) (s x : Operand) (ho : o.op = .call { callee := .builtin .append, args := #[s, x], argTypes := #[t, t] })
    (base : Nat) (v : Value) (n : Nat) (xs : List Value) (hs : a.eval s = v) (hown : w.ownsRow base e size v n xs) (ad : Addr) (m c : Nat) (news : List Value) (hx : a.eval x = .slice (some ad) m c) (hl : news.length = m * size)
    (hX : ∀ j u, news[j]? = some u → w.cell? (ad.add j) = some u) (h1 : ∀ u ∈ news, u.oneCell' = true) (hcap : (n + m) * bytes ≤ 140737488355328) (hbase : base ≤ w.heap.size)
    (h : ∀ v' w', w'.ownsRow base e size v' (n + m) (xs ++ news) → w.grownBy w' v.ownBlock → Below base w w' → K (a.put o.dst v') w') :
    if Region.wanted o (yielded ops a.tmps) = true then Oper.wp P o a w K Q else E := by
  obtain ⟨ht, hz0, hb0, i, z, hi, hz, hsz, hby, hzs⟩ := hst
  have hmax : n + m ≤ maxLen := by
    have : n + m ≤ (n + m) * bytes := Nat.le_mul_of_pos_right _ hb0
    unfold maxLen; omega
  have hw : Region.wanted o (yielded ops a.tmps) = true := by simp [Region.wanted, hg]
  rw [if_pos hw]
  obtain ⟨v', w', hrun, r1, r2, r3⟩ := run_append_own (P := P) w base t o.type e i z size bytes ht hi hz hsz hby hzs hz0 v n xs hown ad m c news hl hX h1 hmax hcap hbase
  unfold Oper.wp
  simp [execOp, ho, resolve, invoke, builtin, hs, hx, hrun, Result.andThen]
  exact h v' w' r1 r2 ((Below.refl _ _).grown r2 hbase fun k hk => (hown.lt k hk).1)
end
theorem fill_three (place : Nat → Option (Nat × Nat)) (z : Array Value) (d : List Value) (x y : Int) (hz : z.size = d.length + 2) (h0 : place 0 = some (0, d.length)) (h1 : place 1 = some (d.length, 1)) (h2 : place 2 = some (d.length + 1, 1)) :
    Instr.fill place z [(0, .agg d.toArray), (1, .int .i64 x), (2, .int .i64 y)] = some (d ++ [Value.int .i64 x, Value.int .i64 y]).toArray := by
  unfold Instr.fill
  rw [h0]
  simp only [show (Value.agg d.toArray).cells = d.toArray from rfl]
  rw [if_neg (by simp [hz]), fold_putsA']
  unfold Instr.fill
  rw [h1]
  simp only [show (Value.int .i64 x).cells = #[.int .i64 x] from rfl]
  rw [if_neg (by simp [putsA_size, hz]), fold_putsA']
  unfold Instr.fill
  rw [h2]
  simp only [show (Value.int .i64 y).cells = #[.int .i64 y] from rfl]
  rw [if_neg (by simp [putsA_size, hz]), fold_putsA']
  unfold Instr.fill
  congr 1
  apply Array.ext_getElem?
  intro m
  rw [putsA_get _ _ _ _ (by rw [putsA_size, putsA_size]; simp; omega), putsA_get _ _ _ _ (by rw [putsA_size]; simp; omega), putsA_get _ _ _ _ (by simp; omega)]
  simp only [List.getElem?_toArray, List.length_cons, List.length_nil]
  by_cases c2 : m = d.length + 1
  · subst c2
    rw [if_pos (by omega), List.getElem?_append_right (by omega), show d.length + 1 - d.length = 1 by omega, show d.length + 1 - (d.length + 1) = 0 by omega]; rfl
  rw [if_neg (c := d.length + 1 ≤ m ∧ _) (by omega)]
  by_cases c1 : m = d.length
  · subst c1
    rw [if_pos (by omega), List.getElem?_append_right (by omega), show d.length - d.length = 0 by omega]; rfl
  rw [if_neg (c := d.length ≤ m ∧ _) (by omega)]
  by_cases c0 : m < d.length
  · rw [if_pos ⟨by omega, by omega⟩, List.getElem?_append_left c0, Nat.sub_zero]
  · rw [if_neg (by omega), Array.getElem?_eq_none (by omega), List.getElem?_eq_none (by simp; omega)]
theorem built_rp (d : Sp.Bs) (hd : d.length = 32) (tr n : Int) : (Tryz.prog).built 115 [(0, digV d), (1, .int .i64 tr), (2, .int .i64 n)] = some (rpL (d, tr, n)).toArray := by
  have e : (Tryz.prog).built 115 [(0, digV d), (1, .int .i64 tr), (2, .int .i64 n)] = Instr.fill (fun i => (#[(0, 32), (32, 1), (33, 1)] : Array (Nat × Nat))[i]?) (Array.replicate 32 (.int .u8 0) ++ #[.int .i64 0, .int .i64 0]) [(0, digV d), (1, .int .i64 tr), (2, .int .i64 n)] := by kernel_rfl
  rw [e]
  exact fill_three (fun i => (#[(0, 32), (32, 1), (33, 1)] : Array (Nat × Nat))[i]?) (Array.replicate 32 (.int .u8 0) ++ #[.int .i64 0, .int .i64 0]) (d.map byteV) tr n (by simp [hd]) (by rw [List.length_map, hd]; rfl) (by rw [List.length_map, hd]; rfl) (by rw [List.length_map, hd]; rfl)
def rlastL (ls : List Int) (i : Nat) : Int := (ls[i]?).getD 0
/-- The place of the first of the least, of the first so many. -/
def minL (ls : List Int) : Nat → Nat
  | 0 => 0
  | k + 1 => if rlastL ls k < rlastL ls (minL ls k) then k else minL ls k
theorem minL_lt (ls : List Int) (h : 0 < ls.length) : ∀ k, k ≤ ls.length → minL ls k < ls.length
  | 0, _ => h
  | k + 1, hk => by
    rw [minL]
    split
    · exact hk
    · exact minL_lt ls h k (by omega)
def rlasts (q : List RPin) : List Int := q.map (·.2.2)
def rroom (q : List RPin) : List RPin := if q.length < 4 then q else q.take (minL (rlasts q) q.length) ++ q.drop (minL (rlasts q) q.length + 1)
def rputL (d : Sp.Bs) (tr n : Int) (l : List RPin) : List RPin :=
  match rK d (roldS n l) with
  | some _ => rfindL d n l
  | none => rroom (roldS n l) ++ [(d, tr, n)]
theorem rpsC_one (l : List RPin) : ∀ u ∈ rpsC l, u.oneCell' = true := by
  induction l with
  | nil => intro u hu; cases hu
  | cons x r ih =>
    intro u hu
    rw [rpsC] at hu
    rcases List.mem_append.1 hu with h | h
    · exact rpL_one x u h
    · exact ih u h
theorem rps_part {l : List RPin} (ok : ROk l) (i n : Nat) (h : i + n ≤ l.length) : ∀ (j : Nat) u, (rpsC ((l.drop i).take n))[j]? = some u → (rpsC l)[i * 34 + j]? = some u := by
  intro j u hj
  have e : l = l.take i ++ ((l.drop i).take n ++ (l.drop i).drop n) := by rw [List.take_append_drop, List.take_append_drop]
  have e1 : (rpsC (l.take i)).length = i * 34 := by rw [rpsC_len _ (fun x hx => ok x (List.mem_of_mem_take hx)), List.length_take, Nat.min_eq_left (by omega)]
  conv => lhs; rw [e]
  rw [rpsC_append, rpsC_append, List.getElem?_append_right (by omega), e1, show i * 34 + j - i * 34 = j by omega, List.getElem?_append_left (List.getElem?_eq_some_iff.1 hj).1]
  exact hj
end Go.Proofs.YtedjiaenodechaaGreatDoor
