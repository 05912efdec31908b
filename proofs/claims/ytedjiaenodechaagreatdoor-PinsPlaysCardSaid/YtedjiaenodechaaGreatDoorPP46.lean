/- Walks: PinsHeld. Walks: the document's pins: those that are old go. -/
import Derived.Test.YtedjiaenodechaaGreatDoorPP45
namespace Go.Proofs.YtedjiaenodechaaGreatDoor
open Go.RowKit Go.Shelf
attribute [local go_sem] yUpon strOf_toList
/-- Numbers in memory. -/
def numsC (l : List Int) : List Value := l.map fun n => .int .i64 n
def Nums (w : World) (A : Option Addr) (l : List Int) : Prop := Cells w A (numsC l)
theorem Nums.at {w : World} {A : Option Addr} {l : List Int} (h : Nums w A l) (hn : 0 < l.length) : ∃ g o, A = some ⟨g, o, none⟩ ∧ ∀ k (h : k < l.length), w.cell? ⟨g, o + k, none⟩ = some (.int .i64 l[k]) := by
  obtain ⟨g, o, hA, hc⟩ := h (by intro e; rw [numsC, List.map_eq_nil_iff] at e; rw [e] at hn; simp at hn)
  exact ⟨g, o, hA, fun k hk => hc k _ (by simp [numsC, hk])⟩
theorem PinsAt.nums {g : Nat} {w w' : World} {ps : List Pin} (h : PinsAt g w ps) (e : Only g w w') {A : Option Addr} {l : List Int} (hl : Nums w A l) : Nums w' A l := by
  obtain ⟨v, h1, h2, h3⟩ := h
  refine Cells.apart hl e h1 (row_sl h2) (fun u hu => ?_)
  rw [numsC, List.getElem?_map] at hu
  cases hq : l[0]? with
  | none => rw [hq] at hu; cases hu
  | some b => rw [hq] at hu; cases hu; rfl
/-- The first is there, and nothing is old. -/
def Held (a : Option Addr) (o : Option Sp.T) (t : Int) (ps : List Pin) : Prop := ∃ n rest, ps = (a, o, n) :: rest ∧ ∀ x ∈ ps, t ≤ x.2.2 ∧ x.2.2 ≤ t + 99
theorem held_old {a : Option Addr} {o : Option Sp.T} {t n : Int} {ps : List Pin} (h : Held a o t ps) (hn : n ≤ t + 99) : oldS n ps = ps := by
  obtain ⟨_, _, _, h2⟩ := h
  unfold oldS
  rw [List.filter_eq_self]
  intro x hx
  have := h2 x hx
  simp only [decide_eq_true_eq]
  omega
theorem held_put {a a2 : Option Addr} {o o2 : Option Sp.T} {t n : Int} {ps : List Pin} (h : Held a o t ps) (h1 : t ≤ n) (h2 : n ≤ t + 99) (hl : ps.length ≤ 3) : Held a o t (putS (a2, o2) n ps) ∧ (putS (a2, o2) n ps).length ≤ ps.length + 1 := by
  unfold putS
  rw [held_old h h2]
  obtain ⟨m, rest, e1, e2⟩ := h
  cases hu : useK (dgP (a2, o2, n)) ps with
  | some k =>
    have e3 : useP (dgP (a2, o2, n)) n ps = ps.modify k (touch n) := by rw [useP, hu]
    simp only [e3]
    refine ⟨?_, by rw [List.length_modify]; omega⟩
    have hall : ∀ x ∈ ps.modify k (touch n), t ≤ x.2.2 ∧ x.2.2 ≤ t + 99 := fun x hx => by
      rw [← e3] at hx
      obtain ⟨y, hy, rfl | rfl⟩ := useP_mem hx
      · exact e2 _ hy
      · exact ⟨h1, h2⟩
    subst e1
    cases k with
    | zero => exact ⟨n, rest, rfl, hall⟩
    | succ k => exact ⟨m, rest.modify k (touch n), rfl, hall⟩
  | none =>
    have e3 : roomS ps = ps := by unfold roomS; rw [if_pos (by omega)]
    simp only [e3]
    refine ⟨⟨m, rest ++ [(a2, o2, n)], by rw [e1]; rfl, fun x hx => ?_⟩, by simp⟩
    rcases List.mem_append.1 hx with hx | hx
    · exact e2 x hx
    · obtain rfl := List.mem_singleton.1 hx
      exact ⟨h1, h2⟩
theorem held_found {a : Option Addr} {o : Option Sp.T} {t n : Int} {ps : List Pin} (h : Held a o t ps) (hn : n ≤ t + 99) : foundV (Sp.nsum (Sp.nodeT (o.getD .nil))) n ps = .tuple #[.pointer a, .bool true] := by
  unfold foundV
  rw [held_old h hn]
  obtain ⟨m, rest, e1, e2⟩ := h
  have : useK (Sp.nsum (Sp.nodeT (o.getD .nil))) ps = some 0 := by
    rw [e1]
    unfold useK
    rw [List.findIdx?_cons]
    have : (dgP (a, o, m) == Sp.nsum (Sp.nodeT (o.getD .nil))) = true := beq_self_eq_true _
    rw [this]
    rfl
  rw [this, e1]
  rfl
theorem rclamp_calls (n : Int) (w : World) : Calls Tryz.prog 34 #[.int .i64 n] w fun e w' => e = .returned (.int .i64 (min (max n 0) 1099511627776)) ∧ w = w' := by
  go_enter Tryz.func34, Tryz.ntmps34
  go_wp2
  go_ret
  exact ⟨rfl, rfl⟩
namespace Sp
theorem tree_good (k : Fin 7) : GoodO (treeK k) := setCode_good (tree_code k) good_none
theorem tree_short : ∀ k : Fin 7, ∀ x ∈ entriesO (treeK k), x.1.length ≤ 60 := by decide +kernel
end Sp
set_option maxRecDepth 100000 in
set_option maxHeartbeats 4000000 in
theorem pinsHeld_calls (now : Int) (l : List Int) (A : Option Addr) (cap : Nat) (w : World) (hL : Nums w A l) (hb : ∀ n ∈ l, -9223372036854775808 ≤ n ∧ n ≤ 9223372036854775807) (K : KeysAt w 2) (M : MaxAt w) :
    Calls Tryz.prog 8 #[.int .i64 now, .slice A l.length cap] w fun e w' => e = .returned (.bool true) ∧ Ext w w' := by
  have KK := Lib.hid K
  have MM := Lib.hid M
  have LL := Lib.hid hL
  have HB := Lib.hid hb
  have tok1 : True := trivial
  obtain ⟨t, ht⟩ : ∃ t, t = min (max now 0) 1099511627776 := ⟨_, rfl⟩
  have t0 : 0 ≤ t := by omega
  have t1 : t ≤ 1099511627776 := by omega
  have RC := Lib.hid (show ∀ w, Calls Tryz.prog 34 #[.int .i64 now] w fun e w' => e = .returned (.int .i64 t) ∧ w = w' from fun w => by rw [ht]; exact rclamp_calls now w)
  clear K M hL hb ht
  go_enter Tryz.func8, Tryz.ntmps8
  go_upto_region 2 with (have _t := tok1; ((with_reducible refine at_box (t := 62) rfl ?_); refine box_new rfl (cs := #[.slice none 0 0]) (t := 62) (by first | (go_simp; done) | (go_simp; rfl)) ?_; intro g w2 hg2 hx2 hb2; have P2 := Lib.hid (pins_new w2 g hx2); have B2 := Lib.hid (show Ext w w2 from hb2); have GG := Lib.hid hg2; clear tok1 _t hx2 hb2 hg2))
  go_wp2_with fail
  refine (RC.out w2).mono ?_
  rintro e w3 ⟨rfl, rfl⟩
  by_cases hbig : 1099511627576 < t
  · go_wp2_with fail
    refine (awake28_calls w2 (KK.out.ext B2.out) (max_kept MM.out B2.out)).mono ?_
    rintro e w3 ⟨rfl, hb3⟩
    go_wp2
    go_ret
    exact ⟨rfl, B2.out.trans hb3⟩
  · have TB := Lib.hid (show t ≤ 1099511627576 by omega)
    go_wp2_with fail
    refine (trees_calls 0 w2 (by decide) (KK.out.ext B2.out) (max_kept MM.out B2.out)).mono ?_
    rintro e w3 ⟨a3, rfl, ht3, hb3⟩
    obtain ⟨o, ho⟩ : ∃ o, o = Sp.treeK (Sp.tN 0) := ⟨_, rfl⟩
    rw [← ho] at ht3
    have E3 := Lib.hid (B2.out.trans hb3)
    have P3 := Lib.hid (P2.out.ext hb3)
    have CT := Lib.hid (show clampS t = t by unfold clampS; omega)
    have PC := Lib.hid (put_calls g [] a3 o t w3 P3.out (by decide) ht3 (KK.out.ext E3.out))
    rw [CT.out] at PC
    have H0 := Lib.hid (show Held a3 o t (putS (a3, o) t []) ∧ (putS (a3, o) t []).length ≤ 1 from ⟨⟨t, [], rfl, fun x hx => by
      obtain rfl := List.mem_singleton.1 hx
      exact ⟨Int.le_refl _, by simp only; omega⟩⟩, Nat.le_refl _⟩)
    have TC := Lib.hid (show ∀ W, KeysAt W 2 → MaxAt W → Calls Tryz.prog 18 #[.int .i64 0] W fun e w' => ∃ a, e = .returned (.pointer a) ∧ TreeAt w' (.pointer a) o ∧ Ext W w' from fun W K M => by rw [ho]; exact trees_calls 0 W (by decide) K M)
    have GO := Lib.hid (show Sp.GoodO o ∧ ∀ x ∈ Sp.entriesO o, x.1.length ≤ 60 by rw [ho]; exact ⟨Sp.tree_good 0, Sp.tree_short 0⟩)
    obtain ⟨d, hd⟩ : ∃ d, d = Sp.nsum (Sp.nodeT (o.getD .nil)) := ⟨_, rfl⟩
    have DD := Lib.hid (show d.length = 32 by rw [hd]; exact Sp.nsum_len _)
    have RT := Lib.hid fun v W (h : TreeAt W v o) (K : KeysAt W 2) => troot_calls o v W h K
    rw [← hd] at RT
    have HF := Lib.hid (show ∀ ps n, Held a3 o t ps → n ≤ t + 99 → foundV d n ps = .tuple #[.pointer a3, .bool true] from fun ps n h hn => by rw [hd]; exact held_found h hn)
    clear ht3 hb3 ho hd
    go_wp2_with fail
    refine PC.out.mono ?_
    rintro e w4 ⟨rfl, hp4, ho4⟩
    have P4 := Lib.hid hp4
    have E4 := Lib.hid (show Ext w w4 from Below.trans E3.out (ho4.below GG.out E3.out.size))
    clear hp4 ho4
    go_wp2
    go_loopw [7] (fun v7 wr => ∃ i : Nat, i ≤ 3 ∧ i ≤ l.length ∧ v7 = .int .i64 i ∧ (∃ ps, PinsAt g wr ps ∧ Held a3 o t ps ∧ ps.length ≤ i + 1) ∧ Ext w wr) (fun v7 _ => 3 - (intOf v7).toNat)
    case atStart => exact ⟨0, by omega, Nat.zero_le _, rfl, ⟨_, P4.out, H0.out.1, H0.out.2⟩, E4.out⟩
    case round =>
      obtain ⟨i, hi3, hil, rfl, ⟨ps, hP, hH, hpl⟩, hb⟩ := hrel
      have PP := Lib.hid hP
      have HH := Lib.hid hH
      have PL := Lib.hid hpl
      have EW := Lib.hid hb
      clear hP hH hpl hb
      by_cases hgo : i < l.length ∧ i < 3
      · obtain ⟨g1, g2⟩ := hgo
        have b1 : (i : Int) < (l.length : Int) := by omega
        have b2 : (i : Int) < 3 := by omega
        obtain ⟨lb, lo, rfl, hc⟩ := LL.out.at (by omega)
        have c0 := hc i g1
        have hbn := HB.out _ (List.getElem_mem g1)
        obtain ⟨n, hn⟩ : ∃ n, n = l[i] := ⟨_, rfl⟩
        rw [← hn] at c0 hbn
        obtain ⟨x, hx⟩ : ∃ x : Int, x = n % 18446744073709551616 := ⟨_, rfl⟩
        obtain ⟨k6, hk6⟩ : ∃ k6 : Nat, k6 = (x % 6).toNat := ⟨_, rfl⟩
        obtain ⟨k9, hk9⟩ : ∃ k9 : Nat, k9 = (x % 100).toNat := ⟨_, rfl⟩
        have l6 : k6 < 6 := by omega
        have l9 : k9 < 100 := by omega
        have u1 : IntKind.u64.wrap n = x := by rw [IntKind.wrap_u64, hx]
        have u2 : x.tmod 6 = (k6 : Int) := by rw [Int.tmod_eq_emod_of_nonneg (by omega), hk6]; omega
        have u3 : x.tmod 100 = (k9 : Int) := by rw [Int.tmod_eq_emod_of_nonneg (by omega), hk9]; omega
        have u4 : IntKind.i64.wrap (k6 : Int) = (k6 : Int) := IntWalk.i64_in _ (by omega)
        have u5 : IntKind.i64.wrap (k9 : Int) = (k9 : Int) := IntWalk.i64_in _ (by omega)
        have u6 : IntKind.i64.wrap (1 + (k6 : Int)) = 1 + (k6 : Int) := IntWalk.i64_in _ (by omega)
        have u7 : IntKind.i64.wrap (t + (k9 : Int)) = t + (k9 : Int) := IntWalk.i64_in _ (by have := TB.out; omega)
        have u8 : IntKind.u64.wrap (k6 : Int) = (k6 : Int) := by rw [IntKind.wrap_u64]; omega
        have u9 : IntKind.u64.wrap (k9 : Int) = (k9 : Int) := by rw [IntKind.wrap_u64]; omega
        have f0 := EW.out.cell c0
        have C0 := Lib.hid c0
        have TN := Lib.hid (trees_calls (1 + (k6 : Int)) wr.drew (by omega) (KK.out.ext EW.out.drew) (max_kept MM.out EW.out.drew))
        have CN := Lib.hid (show clampS (t + (k9 : Int)) = t + (k9 : Int) by unfold clampS; have := TB.out; omega)
        have tokA : True := trivial
        have tokB : True := trivial
        clear hc c0 hbn hn hx hk6 hk9
        go_wp2_with fail
        go_region_law (first
          | (have _tA := tokA; refine step_call rfl 18 #[.int .i64 (1 + (k6 : Int))] (by go_simp) TN.out ?_; rintro e w9 ⟨a9, rfl, ht9, hb9⟩; have T9 := Lib.hid ht9; have B9 := Lib.hid (show Ext wr w9 from Below.trans (Below.refl _ _).drew hb9); have f1 := (EW.out.trans B9.out).cell C0.out; clear ht9 hb9 tokA _tA; refine ⟨_, rfl, ?_⟩)
          | (have _tB := tokB; refine step_call rfl 17 #[.pointer (some ⟨g, 0, none⟩), .pointer a9, .int .i64 (t + (k9 : Int))] (by go_simp) (put_calls g ps a9 _ (t + (k9 : Int)) w9 (PP.out.ext B9.out) (by have := PL.out; omega) T9.out (KK.out.ext (EW.out.trans B9.out))) ?_; rintro e w10 ⟨rfl, hp10, ho10⟩; have P10 := Lib.hid hp10; have E10 := Lib.hid (show Ext w w10 from Below.trans (EW.out.trans B9.out) (ho10.below GG.out (EW.out.trans B9.out).size)); clear hp10 ho10 tokB _tB; refine ⟨_, rfl, ?_⟩))
        all_goals (
          have P11 := P10.out
          rw [CN.out] at P11
          have hp := held_put (a2 := a9) (o2 := Sp.treeK (Sp.tN (1 + (k6 : Int)))) (n := t + (k9 : Int)) HH.out (by omega) (by omega) (by have := PL.out; omega)
          have HP := Lib.hid hp
          clear hp f0
          go_wp2
          refine ⟨⟨i + 1, by omega, by omega, by go_num, ⟨_, P11, HP.out.1, by have := HP.out.2; have := PL.out; omega⟩, E10.out⟩, by simp [intOf]; omega⟩)
      · have CF := Lib.hid (show clampS (t + 99) = t + 99 by unfold clampS; have := TB.out; omega)
        have w9 : IntKind.i64.wrap (t + 99) = t + 99 := IntWalk.i64_in _ (by have := TB.out; omega)
        have hcase : (¬ (i : Int) < (l.length : Int)) ∨ ((i : Int) < (l.length : Int) ∧ ¬ (i : Int) < 3) := by omega
        clear hgo
        rcases hcase with b1 | ⟨b1, b2⟩
        all_goals (
          go_wp2_with fail
          refine (TC.out wr (KK.out.ext EW.out) (max_kept MM.out EW.out)).mono ?_
          rintro e w5 ⟨a5, rfl, ht5, hb5⟩
          have T5 := Lib.hid ht5
          have E5 := Lib.hid (EW.out.trans hb5)
          have P5 := Lib.hid (PP.out.ext hb5)
          clear ht5 hb5
          go_wp2_with fail
          refine (RT.out _ w5 T5.out (KK.out.ext E5.out)).mono ?_
          rintro e w6 ⟨rfl, hb6⟩
          have E6 := Lib.hid (E5.out.trans hb6)
          have P6 := Lib.hid (P5.out.ext hb6)
          have FC := Lib.hid (pfind_calls g ps d DD.out (t + 99) w6 P6.out (by have := PL.out; omega) (KK.out.ext E6.out))
          rw [CF.out, HF.out ps (t + 99) HH.out (Int.le_refl _)] at FC
          clear hb6
          go_wp2_with fail
          refine FC.out.mono ?_
          rintro e w7 ⟨rfl, _, ho7⟩
          have T3 := Lib.hid (show TreeAt w7 (.pointer a3) o by
            obtain ⟨m, rest, e1, _⟩ := HH.out
            obtain ⟨v, _, _, h3⟩ := P6.out
            exact P6.out.tree ho7 (h3 (a3, o, m) (by rw [e1]; exact List.mem_cons_self ..)).1)
          have E7 := Lib.hid (show Ext w w7 from Below.trans E6.out (ho7.below GG.out E6.out.size))
          clear ho7
          go_wp2_with fail
          refine (TC.out w7 (KK.out.ext E7.out) (max_kept MM.out E7.out)).mono ?_
          rintro e w8 ⟨a8, rfl, ht8, hb8⟩
          have E8 := Lib.hid (E7.out.trans hb8)
          have SM := Lib.hid (tsame_calls o o (.pointer a3) (.pointer a8) w8 (T3.out.ext hb8) ht8 GO.out.1 GO.out.1 GO.out.2 GO.out.2 (KK.out.ext E8.out))
          rw [decide_eq_true (rfl : Sp.told o = Sp.told o)] at SM
          clear ht8 hb8
          go_wp2_with fail
          refine SM.out.mono ?_
          rintro e w9 ⟨rfl, hb9⟩
          have E9 := Lib.hid (E8.out.trans hb9)
          clear hb9
          go_wp2_with fail
          refine (awake28_calls w9 (KK.out.ext E9.out) (max_kept MM.out E9.out)).mono ?_
          rintro e w10 ⟨rfl, hb10⟩
          go_wp2
          go_ret
          exact ⟨rfl, E9.out.trans hb10⟩)
end Go.Proofs.YtedjiaenodechaaGreatDoor
namespace Go.Proofs.YtedjiaenodechaaGreatDoor
open Go.RowKit Go.Shelf
attribute [local go_sem] yUpon strOf_toList
/-- A pin of the document's: a digest, the number of its tree, when it was last of use. -/
abbrev RPin := Sp.Bs × Int × Int
def rpL (x : RPin) : List Value := x.1.map byteV ++ [.int .i64 x.2.1, .int .i64 x.2.2]
def rpsC : List RPin → List Value
  | [] => []
  | x :: r => rpL x ++ rpsC r
def ROk (l : List RPin) : Prop := ∀ x ∈ l, x.1.length = 32 ∧ Tm x.2.2
theorem rpL_len (x : RPin) (h : x.1.length = 32) : (rpL x).length = 34 := by simp [rpL, h]
theorem rpsC_len : ∀ (l : List RPin), ROk l → (rpsC l).length = l.length * 34
  | [], _ => rfl
  | x :: r, h => by
    rw [rpsC, List.length_append, rpL_len x (h x (List.mem_cons_self ..)).1, rpsC_len r (fun y hy => h y (List.mem_cons_of_mem _ hy)), List.length_cons]
    omega
theorem rpsC_append (l m : List RPin) : rpsC (l ++ m) = rpsC l ++ rpsC m := by
  induction l with
  | nil => rfl
  | cons x r ih => simp [rpsC, ih]
theorem rpsC_get : ∀ (l : List RPin) (k : Nat) (hk : k < l.length), ROk l → ∀ (j : Nat) (v : Value), (rpL l[k])[j]? = some v → (rpsC l)[k * 34 + j]? = some v
  | x :: r, 0, _, h, j, v, hv => by
    rw [rpsC, Nat.zero_mul, Nat.zero_add, List.getElem?_append_left]
    · exact hv
    · exact (List.getElem?_eq_some_iff.1 hv).1
  | x :: r, k + 1, hk, h, j, v, hv => by
    have e := rpL_len x (h x (List.mem_cons_self ..)).1
    rw [rpsC, List.getElem?_append_right (by omega), e, show (k + 1) * 34 + j - 34 = k * 34 + j by omega]
    exact rpsC_get r k (by simpa using hk) (fun y hy => h y (List.mem_cons_of_mem _ hy)) j v hv
theorem rpL_num (x : RPin) (h : x.1.length = 32) : (rpL x)[32]? = some (.int .i64 x.2.1) ∧ (rpL x)[33]? = some (.int .i64 x.2.2) := by
  constructor
  · rw [rpL, List.getElem?_append_right (by simp [h])]; simp [h]
  · rw [rpL, List.getElem?_append_right (by simp [h])]; simp [h]
theorem rps_at {w : World} {A : Option Addr} {l : List RPin} (h : Cells w A (rpsC l)) (ok : ROk l) (hn : 0 < l.length) : ∃ g o, A = some ⟨g, o, none⟩ ∧ ∀ k (hk : k < l.length), w.rangeAt g (o + k * 34) (rpL l[k]) := by
  obtain ⟨g, o, hA, hc⟩ := h (by intro e; have := rpsC_len l ok; rw [e] at this; simp at this; omega)
  exact ⟨g, o, hA, fun k hk j v hj => by rw [Nat.add_assoc]; exact hc _ _ (rpsC_get l k hk ok j v hj)⟩
theorem appRP : AppStat Tryz.prog 63 115 34 48 := by
  refine ⟨Tryz.underlying63, by decide, by decide, ?_⟩
  obtain ⟨i0, hi, hz0, hz1, hz2⟩ := info_parts (show (Tryz.prog.info? 115).map (fun i => (i.zero, i.size, i.bytes)) = some (some (.agg (((List.replicate 32 (Value.int .u8 0)) ++ [Value.int .i64 0, Value.int .i64 0] : List Value).toArray)), 34, 48) by kernel_rfl)
  exact ⟨i0, _, hi, hz0, hz1, hz2, by kernel_rfl⟩
theorem rpL_one (x : RPin) : ∀ u ∈ (rpL x).toArray.toList, u.oneCell' = true := by
  intro u hu
  rw [show (rpL x).toArray.toList = rpL x from rfl, rpL] at hu
  rcases List.mem_append.1 hu with h | h
  · obtain ⟨b, _, rfl⟩ := List.mem_map.1 h; rfl
  · simp at h; rcases h with rfl | rfl <;> rfl
theorem clamp_same (n : Int) : min (max n 0) 1099511627776 = clampS n := by unfold clampS; omega
def roldS (n : Int) (l : List RPin) : List RPin := l.filter fun x => decide (n - x.2.2 < 100)
theorem roldS_step (n : Int) (l : List RPin) (k : Nat) (h : k < l.length) : roldS n (l.take (k + 1)) = roldS n (l.take k) ++ if decide (n - (l[k]).2.2 < 100) = true then [l[k]] else [] := by
  unfold roldS
  rw [List.take_succ_eq_append_getElem h, List.filter_append]
  congr 1
  cases hd : decide (n - (l[k]).2.2 < 100) <;> simp [hd]
set_option maxRecDepth 100000 in
set_option maxHeartbeats 4000000 in
theorem rold_calls (l : List RPin) (A : Option Addr) (cap : Nat) (now : Int) (w : World) (h : Cells w A (rpsC l)) (ok : ROk l) (hl : l.length ≤ 1000) :
    Calls Tryz.prog 33 #[.slice A l.length cap, .int .i64 now] w fun e w' => ∃ v, e = .returned v ∧ w'.ownsRow w.heap.size 115 34 v (roldS (clampS now) l).length (rpsC (roldS (clampS now) l)) ∧ Ext w w' := by
  have HC := Lib.hid h
  have OK := Lib.hid ok
  obtain ⟨n, hn⟩ : ∃ n, n = clampS now := ⟨_, rfl⟩
  have TN := Lib.hid (show Tm n by rw [hn]; exact clamp_tm now)
  have CC := Lib.hid (show ∀ w, Calls Tryz.prog 34 #[.int .i64 now] w fun e w' => e = .returned (.int .i64 n) ∧ w = w' from fun w => by rw [hn, ← clamp_same]; exact rclamp_calls now w)
  rw [← hn]
  clear h ok hn
  go_enter Tryz.func33, Tryz.ntmps33
  go_wp2
  go_loopw [5, 6] (fun v5 v6 wr => ∃ k : Nat, k ≤ l.length ∧ v6 = .int .i64 k ∧ wr.ownsRow w.heap.size 115 34 v5 (roldS n (l.take k)).length (rpsC (roldS n (l.take k))) ∧ Ext w wr) (fun _ v6 _ => l.length - (intOf v6).toNat)
  case atStart => exact ⟨0, Nat.zero_le _, rfl, World.ownsRow_nil _ _ _ _, Ext.refl _⟩
  case round =>
    obtain ⟨k, hk, rfl, hO, hb⟩ := hrel
    by_cases hlt : k < l.length
    · obtain ⟨g, o, rfl, hr⟩ := rps_at HC.out OK.out (by omega)
      have hxo := OK.out _ (List.getElem_mem hlt)
      have st := roldS_step n l k hlt
      have hr1 := hr k hlt
      have rl : (roldS n (l.take k)).length ≤ k := Nat.le_trans (List.length_filter_le _ _) (List.length_take_le _ _)
      obtain ⟨x, hx⟩ : ∃ x, x = l[k] := ⟨_, rfl⟩
      rw [← hx] at hxo st hr1
      obtain ⟨s, hsl⟩ : ∃ s, s = roldS n (l.take k) := ⟨_, rfl⟩
      rw [← hsl] at hO st rl
      have O := Lib.hid hO
      have EW := Lib.hid hb
      have ST := Lib.hid st
      have R1 := Lib.hid (show ∀ W, Ext wr W → W.rangeAt g (o + k * 34) (rpL x) from fun W e j v hj => (hb.trans e).cell (hr1 j v hj))
      have c33 := hb.cell (hr1 33 _ (rpL_num x hxo.1).2)
      have C33 := Lib.hid c33
      have XL := Lib.hid (show (rpL x).length = 34 from rpL_len x hxo.1)
      have XO := Lib.hid (rpL_one x)
      obtain ⟨x3, hx3⟩ : ∃ x3, x3 = x.2.2 := ⟨_, rfl⟩
      rw [← hx3] at C33 ST
      have w1 : IntKind.i64.wrap (n - x3) = n - x3 := IntWalk.i64_in _ (by have h1 := TN.out; have h2 := hxo.2; unfold Tm at h1 h2; omega)
      obtain ⟨ks, hks⟩ : ∃ ks, ks = rpL x := ⟨_, rfl⟩
      have KC := Lib.hid (show rpsC [x] = ks by rw [rpsC, rpsC, List.append_nil, hks])
      rw [← hks] at R1 XL XO
      have b1 : (k : Int) < (l.length : Int) := by omega
      clear hO hb st hr hr1 hxo hx hsl c33 hx3 hks
      go_wp2_with fail
      refine wp_region_det (fun W => W = wr.drew) (by kernel_rfl) (by kernel_rfl) rfl ?_
      repeat (first
        | (refine det_step (fun K hK => ?_)
           apply Exists.intro
           refine ⟨Or.inl ⟨rfl, fun W hS => ?_⟩, ?_⟩
           · obtain rfl : W = wr.drew := hS; have z0 := (show wr.drew.cell? _ = _ from C33.out)
             go_simp
             first
             | exact rfl
             | exact ⟨rfl, hS⟩
             | ((refine (CC.out _).mono ?_; rintro e w9 ⟨rfl, rfl⟩; exact ⟨rfl, rfl⟩))
           go_simp
           refine hK _ ?_
           clear hK K)
        | (refine det_step (fun K hK => ?_); refine det_no' rfl ?_; go_simp; refine hK _ ?_; clear hK K))
      refine det_nil ?_
      rintro W9 rfl
      have O9 := Lib.hid (own_ext O.out (Ext.refl wr).drew)
      obtain ⟨ka, hka⟩ : ∃ ka, ka = ks.toArray := ⟨_, rfl⟩
      have KA := Lib.hid (show ka.size = 34 by rw [hka, List.size_toArray, XL.out])
      have KO := Lib.hid (show ∀ u ∈ ka.toList, u.oneCell' = true by rw [hka]; exact XO.out)
      have KT := Lib.hid (show ka.toList = ks by rw [hka])
      have HKA := Lib.hid hka
      have tok1 : True := trivial
      have tok2 : True := trivial
      have tok3 : True := trivial
      clear hka
      go_wp2_with (first
        | (have _t := tok1; ((with_reducible refine at_load (t := 115) rfl ?_); refine wpList_load_mid rfl _ _ rfl g (o + k * 34) rfl ks _ (R1.out _ (Ext.refl wr).drew) Tryz.underlying115 rfl (by rw [XL.out]; kernel_rfl) ?_; rw [← HKA.out]; clear tok1 _t))
        | (have _t := tok2; ((with_reducible refine at_bslice rfl ?_); refine bslice_one rfl 63 115 _ rfl appRP (by decide) ka rfl KA.out ?_; clear tok2 _t))
        | (have _t := tok3; at_builtin; refine app_new appRP rfl _ _ rfl w.heap.size _ s.length _ rfl O9.out ka 115 1 rfl (by rw [KA.out]) KO.out (by decide) (by omega) (show w.heap.size ≤ wr.drew.heap.size from EW.out.size) ?_; intro g6 cap6 w6 hown6 hgr6 hb6 hbg6; have O6 := Lib.hid hown6; have B6 := Lib.hid hb6; clear tok3 _t hown6 hgr6 hb6 hbg6))
      · rename_i hd
        have ST2 := Lib.hid (show roldS n (l.take (k + 1)) = s ++ [x] by rw [ST.out, if_pos (decide_eq_true hd)])
        go_roundw
        case rel =>
          refine ⟨k + 1, by omega, by go_num, ?_, Below.trans EW.out.drew B6.out⟩
          rw [ST2.out, rpsC_append, KC.out, List.length_append]
          have := O6.out
          rwa [KT.out] at this
        case measure => simp [intOf]; omega
      · rename_i hd
        have ST2 := Lib.hid (show roldS n (l.take (k + 1)) = s by rw [ST.out, if_neg (by simpa using hd), List.append_nil])
        go_roundw
        case rel => exact ⟨k + 1, by omega, by go_num, by rw [ST2.out]; exact O9.out, EW.out.drew⟩
        case measure => simp [intOf]; omega
    · obtain rfl : k = l.length := by omega
      rw [List.take_length] at hO
      have O := Lib.hid hO
      have EW := Lib.hid hb
      clear hO hb
      go_wp2
      go_ret
      exact ⟨_, rfl, O.out, EW.out⟩
end Go.Proofs.YtedjiaenodechaaGreatDoor
