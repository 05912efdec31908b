/- Walks: Depth, of the program and of the document; the example of chapter 16. Walks: the example of chapter 16. Walks: texts that are the same; the first path behind a text; what holds of a tree and the document's list. -/
import Derived.Test.YteiblfcehlibpaaGreatDoorWD48
namespace Go.Proofs.YteiblfcehlibpaaGreatDoor
open Go.RowKit Go.Shelf
attribute [local go_sem] yUpon strOf_toList
namespace Sp
def depthS (m : List DE) : Nat := m.foldl (fun n e => max n (parts e.1).length) 0
theorem depth_take (l : List DE) (k : Nat) (h : k < l.length) : depthS (l.take (k + 1)) = max (depthS (l.take k)) (parts l[k].1).length := by
  unfold depthS
  rw [List.take_succ_eq_append_getElem h, List.foldl_append]
  rfl
theorem depth_le (l : List DE) : ∀ k, k ≤ l.length → depthS (l.take k) ≤ 4
  | 0, _ => by simp [depthS]
  | k + 1, h => by
    rw [depth_take l k h]
    have := depth_le l k (by omega)
    have := parts_len l[k].1
    omega
theorem split_count47 : ∀ s : Bs, (split s).length = s.count 47 + 1
  | [] => rfl
  | c :: r => by
    have ih := split_count47 r
    by_cases h : c = 47
    · rw [split, if_pos h, List.length_cons, ih, h, List.count_cons_self]
    · obtain ⟨a, l, e⟩ : ∃ a l, split r = a :: l := by
        cases e : split r with
        | nil => exact absurd e (split_ne r)
        | cons a l => exact ⟨a, l, rfl⟩
      rw [e] at ih
      rw [split, if_neg h, e, List.count_cons_of_ne (by simpa using h)]
      exact ih
end Sp
set_option maxRecDepth 100000 in
set_option maxHeartbeats 4000000 in
theorem rdepth_calls (l : List Sp.DE) (A : Option Addr) (cap : Nat) (w : World) (h : EntsAt w A l) (hl : l.length ≤ 1000) (hpl : ∀ e ∈ l, e.1.length ≤ 1000000) :
    Calls Tryz.prog 36 #[.slice A l.length cap] w fun e w' => e = .returned (.int .i64 (Sp.depthS l)) ∧ Ext w w' := by
  have HE := Lib.hid h
  have PL := Lib.hid hpl
  clear h hpl
  go_enter Tryz.func36, Tryz.ntmps36
  go_wp2
  go_loopw [3, 4] (fun v3 v4 wr => ∃ k n : Nat, k ≤ l.length ∧ v4 = .int .i64 k ∧ v3 = .int .i64 n ∧ n = Sp.depthS (l.take k) ∧ Ext w wr) (fun _ v4 _ => l.length - (intOf v4).toNat)
  case atStart => exact ⟨0, 0, Nat.zero_le _, rfl, rfl, rfl, Ext.refl _⟩
  case round =>
    obtain ⟨k, n, hk, rfl, rfl, hn, hb⟩ := hrel
    by_cases hlt : k < l.length
    · obtain ⟨eb, eo, rfl, he⟩ := HE.out.at (by omega)
      obtain ⟨Av, cv, c0, _, _⟩ := he k hlt
      have c0 := hb.cell c0
      have st := Sp.depth_take l k hlt
      have XL := Lib.hid (PL.out _ (List.getElem_mem hlt))
      obtain ⟨x, hx⟩ : ∃ x, x = l[k] := ⟨_, rfl⟩
      rw [← hx] at c0 st XL
      rw [← hn] at st
      have PC := Lib.hid (rpparts_calls x.1 wr XL.out)
      obtain ⟨P, hP⟩ : ∃ P, P = Sp.parts x.1 := ⟨_, rfl⟩
      rw [← hP] at st PC
      obtain ⟨q, hq⟩ : ∃ q, q = P.length := ⟨_, rfl⟩
      rw [← hq] at st PC
      have ST := Lib.hid st
      have EW := Lib.hid hb
      have b1 : (k : Int) < (l.length : Int) := by omega
      have b2 : max (n : Int) (q : Int) = ((max n q : Nat) : Int) := by omega
      clear he hx hP hq st hn hb
      go_wp2_with fail
      refine PC.out.mono ?_
      rintro e w7 ⟨A7, c7, rfl, _, hb7⟩
      have E7 := Lib.hid (EW.out.trans hb7)
      clear hb7 c0
      go_wp2
      go_roundw
      case rel => exact ⟨k + 1, max n q, by omega, by go_num, rfl, ST.out.symm, E7.out⟩
      case measure => simp [intOf]; omega
    · obtain rfl : k = l.length := by omega
      rw [List.take_length] at hn
      have HN := Lib.hid hn
      have EW := Lib.hid hb
      clear hn hb
      go_wp2
      go_ret
      exact ⟨by rw [← HN.out]; rfl, EW.out⟩
set_option maxRecDepth 100000 in
set_option maxHeartbeats 4000000 in
theorem wdepth_calls (o : Option Sp.T) (v : Value) (w : World) (hT : TreeAt w v o) (hg : Sp.GoodO o) (hd : ∀ x ∈ Sp.entriesO o, x.1.length ≤ 60) (hp : ∀ e ∈ Sp.told o, Sp.check e.1 = 0) (hl : (Sp.told o).length ≤ 1000) (K : KeysAt w 4) :
    Calls Tryz.prog 35 #[v] w fun e w' => e = .returned (.int .i64 (Sp.depthS (Sp.told o))) ∧ Ext w w' := by
  have EC := Lib.hid (entries_calls o v w hT hg hd K)
  have HP := Lib.hid hp
  obtain ⟨a, rfl⟩ := tree_ptr hT
  obtain ⟨l, hll⟩ : ∃ l, l = Sp.told o := ⟨_, rfl⟩
  rw [← hll] at EC HP hl ⊢
  clear hT hg hd hp K hll
  go_enter Tryz.func35, Tryz.ntmps35
  go_wp2_with fail
  refine EC.out.mono ?_
  rintro e w2 ⟨A2, c2, rfl, hE, hb2⟩
  have HE := Lib.hid hE
  have B2 := Lib.hid hb2
  clear hE hb2
  go_wp2
  go_loopw [3, 9] (fun v3 v9 wr => ∃ k n : Nat, k ≤ l.length ∧ v9 = .int .i64 k ∧ v3 = .int .i64 n ∧ n = Sp.depthS (l.take k) ∧ Ext w2 wr) (fun _ v9 _ => l.length - (intOf v9).toNat)
  case atStart => exact ⟨0, 0, Nat.zero_le _, rfl, rfl, rfl, Ext.refl _⟩
  case round =>
    obtain ⟨k, n, hk, rfl, rfl, hn, hb⟩ := hrel
    by_cases hlt : k < l.length
    · obtain ⟨eb, eo, rfl, he⟩ := HE.out.at (by omega)
      obtain ⟨Av, cv, c0, c1, _⟩ := he k hlt
      have c0 := hb.cell c0
      have c1 := hb.cell c1
      have st := Sp.depth_take l k hlt
      have ck := HP.out _ (List.getElem_mem hlt)
      obtain ⟨x, hx⟩ : ∃ x, x = l[k] := ⟨_, rfl⟩
      rw [← hx] at c0 c1 st ck
      rw [← hn] at st
      have hps := (Sp.check_parts ck).1
      have hp4 := Sp.parts_len x.1
      obtain ⟨q, hq⟩ : ∃ q, q = x.1.count 47 := ⟨_, rfl⟩
      have hpq : (Sp.parts x.1).length = q + 1 := by rw [hps, Sp.split_count47, hq]
      rw [hpq] at st hp4
      have SC := Lib.hid (show ∀ W, Calls Tryz.prog 73 #[.string (strOf x.1), .string ⟨#[47]⟩] W fun e w' => e = .returned (.int .i64 q) ∧ w' = W from fun W => by
        have := Tryz.strings_Count_one (strOf x.1) 47 W
        rw [strOf_data, Lib.countByte, ← hq] at this
        exact this)
      have ST := Lib.hid st
      have EW := Lib.hid hb
      have b1 : (k : Int) < (l.length : Int) := by omega
      have b2 : max (n : Int) ((q : Int) + 1) = ((max n (q + 1) : Nat) : Int) := by omega
      have b3 : IntKind.i64.wrap ((q : Int) + 1) = (q : Int) + 1 := IntWalk.i64_in _ (by omega)
      clear he hx hps hpq hq st hn hb ck
      go_upto_region 5 with fail
      obtain ⟨w6, hw6⟩ : ∃ w6, w6 = wr.alloc (.cells #[.string (strOf x.1), .slice Av x.2.length cv] 51) := ⟨_, rfl⟩
      have X6 := Lib.hid (show isBlk w6 wr.heap.size 51 #[.string (strOf x.1), .slice Av x.2.length cv] by rw [hw6]; exact box_at wr _ _)
      have E6 := Lib.hid (EW.out.trans (show Ext wr w6 by rw [hw6]; exact Ext.alloc _ _))
      rw [← hw6]
      clear hw6 c0 c1
      have k0 := (X6.out.cell 0).trans rfl
      go_wp2_with fail
      refine (SC.out _).mono ?_
      rintro e w7 ⟨rfl, rfl⟩
      go_wp2
      go_roundw
      case rel => exact ⟨k + 1, max n (q + 1), by omega, by go_num, rfl, ST.out.symm, E6.out⟩
      case measure => simp [intOf]; omega
    · obtain rfl : k = l.length := by omega
      rw [List.take_length] at hn
      have HN := Lib.hid hn
      have EW := Lib.hid (B2.out.trans hb)
      clear hn hb
      go_wp2
      go_ret
      exact ⟨by rw [← HN.out]; rfl, EW.out⟩
namespace Sp
def exW : Ver := ⟨(1, 1), [], false, []⟩
def ex16 : List DE := [([97], [exW]), ([97, 47, 98], [exW]), ([97, 47, 99, 47, 100], [exW])]
theorem ex16_rof : (rof [] ex16).1 = ex16 := by decide +kernel
theorem ex16_code : (ofT none ex16).2 = 0 := by decide +kernel
theorem ex16_under : (wunder ex16 [97]).length = 2 := by decide +kernel
theorem ex16_dirs : dirsS ex16 [97] = [[99]] := by decide +kernel
theorem ex16_depth : depthS ex16 = 3 := by decide +kernel
end Sp
end Go.Proofs.YteiblfcehlibpaaGreatDoor
namespace Go.Proofs.YteiblfcehlibpaaGreatDoor
open Go.RowKit Go.Shelf
attribute [local go_sem] yUpon strOf_toList
theorem exW_vers {w : World} {g : Nat} {t : TypeId} (h : isBlk w g t (verC none 0 Sp.exW)) : Vers w (some ⟨g, 0, none⟩) [Sp.exW] :=
  ⟨[(none, 0, Sp.exW)], rfl, fun _ => ⟨g, 0, rfl, fun i u hi => by
    rw [Nat.zero_add, h.cell i]
    have : (verC none 0 Sp.exW).toList ++ [] = (verC none 0 Sp.exW).toList := List.append_nil _
    rw [versC, versC, this] at hi
    simpa using hi⟩, fun x hx => by
    obtain rfl := List.mem_singleton.1 hx
    exact ⟨Cells.nil _ _, Nat.zero_le _⟩⟩
theorem bslice_three {P : Program} {ops : Array Oper} {rest : List Oper} {o : Oper} {a : Act} {w : World} {Q : Exit → Act → World → Prop} (hg : o.guard = none) (t e : TypeId) (x y z : Operand) (ho : o.op = .buildSlice t 3 #[(0, x), (1, y), (2, z)]) {size bytes : Nat} (hst : AppStat P t e size bytes) (hs : size ≤ 1000)
    (c0 c1 c2 : Array Value) (hx : (a.eval x).cells = c0) (hy : (a.eval y).cells = c1) (hz' : (a.eval z).cells = c2) (h0 : c0.size = size) (h1 : c1.size = size) (h2 : c2.size = size)
    (h : wpList P ops Q rest (a.put o.dst (.slice (some ⟨w.heap.size, 0, none⟩) 3 3)) (w.alloc (.cells (c0.toList ++ (c1.toList ++ c2.toList)).toArray e))) : wpList P ops Q (o :: rest) a w := by
  obtain ⟨hu, hz0, _, i, zz, hi, hz, hsz, _, hzs⟩ := hst
  refine wpList_buildSlice hg t e 3 #[(0, x), (1, y), (2, z)] ho (c0.toList ++ (c1.toList ++ c2.toList)).toArray i zz hu hi hz (by rw [hsz]; omega) (by rw [hsz]; omega) ?_ h
  have := Great.fill_whole (s := i.size) (by omega) [a.eval x, a.eval y, a.eval z] ((Array.range (3 * i.size)).map (zz.cells[· % zz.cells.size]!)) (by
    intro v hv
    simp only [List.mem_cons, List.not_mem_nil, or_false] at hv
    rcases hv with rfl | rfl | rfl
    · rw [hx, h0, hsz]
    · rw [hy, h1, hsz]
    · rw [hz', h2, hsz]) (by simp)
  simpa [hx, hy, hz'] using this
set_option maxRecDepth 100000 in
set_option maxHeartbeats 4000000 in
theorem awake16_calls (w : World) (K : KeysAt w 4) (M : MaxAt w) :
    Calls Tryz.prog 21 #[] w fun e w' => e = .returned (.bool true) ∧ Ext w w' := by
  have KK := Lib.hid K
  have MM := Lib.hid M
  have tok : True := trivial
  have tok3 : True := trivial
  clear K M
  go_enter Tryz.func21, Tryz.ntmps21
  go_wp2_with (first
    | (have _t := tok; (with_reducible refine at_bslice rfl ?_); refine bslice_new rfl 49 75 _ rfl appVer (by decide) (verC none 0 Sp.exW) rfl rfl ?_; intro gv wv hgv hxv hbv; have XV := Lib.hid hxv; have BV := Lib.hid hbv; clear tok _t hgv hxv hbv)
    | (have _t := tok3; (with_reducible refine at_bslice rfl ?_); refine bslice_three rfl 22 51 _ _ _ rfl appEnt (by decide) #[.string (strOf [97]), .slice (some ⟨gv, 0, none⟩) 1 1] #[.string (strOf [97, 47, 98]), .slice (some ⟨gv, 0, none⟩) 1 1] #[.string (strOf [97, 47, 99, 47, 100]), .slice (some ⟨gv, 0, none⟩) 1 1] rfl rfl rfl rfl rfl rfl ?_; clear tok3 _t))
  obtain ⟨w1, hw1⟩ : ∃ w1, w1 = wv.alloc (.cells #[.string (strOf [97]), .slice (some ⟨gv, 0, none⟩) 1 1, .string (strOf [97, 47, 98]), .slice (some ⟨gv, 0, none⟩) 1 1, .string (strOf [97, 47, 99, 47, 100]), .slice (some ⟨gv, 0, none⟩) 1 1] 51) := ⟨_, rfl⟩
  have X1 := (show isBlk w1 wv.heap.size 51 #[.string (strOf [97]), .slice (some ⟨gv, 0, none⟩) 1 1, .string (strOf [97, 47, 98]), .slice (some ⟨gv, 0, none⟩) 1 1, .string (strOf [97, 47, 99, 47, 100]), .slice (some ⟨gv, 0, none⟩) 1 1] by rw [hw1]; exact box_at wv _ _)
  have E1 := Lib.hid (show Ext wv w1 by rw [hw1]; exact Ext.alloc _ _)
  have HV := exW_vers (XV.out.below E1.out)
  have HE := Lib.hid (show EntsAt w1 (some ⟨wv.heap.size, 0, none⟩) Sp.ex16 from ⟨Sp.ex16.map fun e => (some ⟨gv, 0, none⟩, 1, e), rfl, fun _ => ⟨wv.heap.size, 0, rfl, fun i u hi => by
    rw [Nat.zero_add, X1.cell i]
    rw [show entsC (Sp.ex16.map fun e => (some (⟨gv, 0, none⟩ : Addr), 1, e)) = [.string (strOf [97]), .slice (some ⟨gv, 0, none⟩) 1 1, .string (strOf [97, 47, 98]), .slice (some ⟨gv, 0, none⟩) 1 1, .string (strOf [97, 47, 99, 47, 100]), .slice (some ⟨gv, 0, none⟩) 1 1] from rfl] at hi
    simpa using hi⟩, fun x hx => by
    simp only [Sp.ex16, List.map_cons, List.map_nil, List.mem_cons, List.not_mem_nil, or_false] at hx
    rcases hx with rfl | rfl | rfl <;> exact HV⟩)
  have B1 := Lib.hid (BV.out.trans E1.out)
  rw [← hw1]
  have OC := Lib.hid (of_calls Sp.ex16 (some ⟨wv.heap.size, 0, none⟩) 3 w1 HE.out (by decide) (KK.out.ext B1.out) (max_kept MM.out B1.out))
  rw [Sp.ex16_code] at OC
  have GO := Lib.hid (Sp.ofT_good Sp.ex16 none Sp.good_none)
  have GM := Lib.hid (show Sp.GoodM Sp.ex16 by have := Sp.rof_good Sp.ex16 [] Sp.goodM_nil; rwa [Sp.ex16_rof] at this)
  have HEQ := Lib.hid (show Sp.toP Sp.ex16 = Sp.entriesO (Sp.ofT none Sp.ex16).1 by have := (Sp.of_both Sp.ex16 none [] rfl Sp.good_none).2; rwa [Sp.ex16_rof] at this)
  obtain ⟨o, ho⟩ : ∃ o, o = (Sp.ofT none Sp.ex16).1 := ⟨_, rfl⟩
  rw [← ho] at OC GO HEQ
  have TE := Lib.hid (Sp.told_eq HEQ.out)
  have SH := Lib.hid (Sp.told_short HEQ.out GM.out)
  have LN := Lib.hid (show ∀ e ∈ Sp.told o, e.1.length ≤ 1000 by rw [TE.out]; decide)
  have LL := Lib.hid (show (Sp.told o).length ≤ 1000 by rw [TE.out]; decide)
  have PT := Lib.hid (show ∀ e ∈ Sp.told o, Sp.check e.1 = 0 by rw [TE.out]; exact GM.out.1)
  clear hw1 X1 HV ho
  refine OC.out.mono ?_
  rintro e w2 ⟨v2, rfl, ht2, hb2⟩
  have T2 := Lib.hid ht2
  have B2 := Lib.hid (B1.out.trans hb2)
  clear ht2 hb2
  go_wp2_with fail
  refine (wdirs_calls o v2 [97] w2 T2.out GO.out SH.out LN.out LL.out (KK.out.ext B2.out) (max_kept MM.out B2.out)).mono ?_
  rintro e w3 ⟨B3, c3, rfl, hN, hb3⟩
  rw [TE.out, Sp.ex16_dirs] at hN ⊢
  obtain ⟨nb, no, rfl, hn⟩ := hN.at (by decide)
  have N0 := Lib.hid (show w3.cell? ⟨nb, no, none⟩ = some (.string (strOf [99])) from hn 0 (by decide))
  have T3 := Lib.hid (T2.out.ext hb3)
  have B3' := Lib.hid (B2.out.trans hb3)
  clear hN hn hb3
  go_wp2_with fail
  refine (wunder_calls o v2 [97] w3 T3.out GO.out SH.out LN.out LL.out (KK.out.ext B3'.out) (max_kept MM.out B3'.out)).mono ?_
  rintro e w4 ⟨v4, rfl, hO4, hb4⟩
  obtain ⟨A4, c4, rfl, _⟩ := hO4.read
  rw [TE.out, Sp.ex16_under]
  have T4 := Lib.hid (T3.out.ext hb4)
  have B4 := Lib.hid (B3'.out.trans hb4)
  have n0 := hb4.cell N0.out
  clear hO4 hb4
  go_wp2_with fail
  refine (wdepth_calls o v2 w4 T4.out GO.out SH.out PT.out LL.out (KK.out.ext B4.out)).mono ?_
  rintro e w5 ⟨rfl, hb5⟩
  rw [TE.out, Sp.ex16_depth]
  go_wp2
  go_ret
  exact ⟨rfl, B4.out.trans hb5⟩
end Go.Proofs.YteiblfcehlibpaaGreatDoor
namespace Go.Proofs.YteiblfcehlibpaaGreatDoor
open Go.RowKit Go.Shelf
attribute [local go_sem] yUpon strOf_toList
set_option maxRecDepth 100000 in
set_option maxHeartbeats 4000000 in
theorem texts_calls (l : List Sp.Bs) (A B : Option Addr) (cap cap' : Nat) (w : World) (h : Nams w A l) (h' : Nams w B l) (hl : l.length ≤ 1000000) :
    Calls Tryz.prog 15 #[.slice A l.length cap, .slice B l.length cap'] w fun e w' => e = .returned (.bool true) ∧ Ext w w' := by
  have HH := Lib.hid h
  have HH' := Lib.hid h'
  have b0 : ((l.length : Int) != (l.length : Int)) = false := by simp
  clear h h'
  go_enter Tryz.func15, Tryz.ntmps15
  go_wp2
  go_loopw [5] (fun v5 wr => ∃ k : Nat, k ≤ l.length ∧ v5 = .int .i64 k ∧ Ext w wr) (fun v5 _ => l.length - (intOf v5).toNat)
  case atStart => exact ⟨0, Nat.zero_le _, rfl, Ext.refl _⟩
  case round =>
    obtain ⟨k, hk, rfl, hb⟩ := hrel
    have HB := Lib.hid hb
    by_cases hlt : k < l.length
    · obtain ⟨g, o, rfl, hc⟩ := (HH.out.ext hb).at (by omega)
      obtain ⟨g', o', rfl, hc'⟩ := (HH'.out.ext hb).at (by omega)
      have c0 := hc k hlt
      have d0 := hc' k hlt
      obtain ⟨x, hx⟩ : ∃ x, x = l[k] := ⟨_, rfl⟩
      rw [← hx] at c0 d0
      have C0 := Lib.hid c0
      have D0 := Lib.hid d0
      have b2 : (k : Int) < (l.length : Int) := by omega
      clear hb hc hc' c0 d0 hx
      go_wp2_with fail
      refine wp_region_det (fun W => Ext wr W) (by kernel_rfl) (by kernel_rfl) (Below.refl _ _).drew ?_
      repeat (first
        | (refine det_step (fun K hK => ?_)
           apply Exists.intro
           refine ⟨Or.inl ⟨rfl, fun W hS => ?_⟩, ?_⟩
           · replace hS : Ext wr W := hS
             have f0 := hS.cell C0.out; have z0 := hS.cell D0.out
             go_simp
             first
             | exact rfl
             | exact ⟨rfl, hS⟩
             | (fail)
           go_simp
           refine hK _ ?_
           clear hK K)
        | (refine det_step (fun K hK => ?_); refine det_no' rfl ?_; go_simp; refine hK _ ?_; clear hK K))
      refine det_nil ?_
      intro W9 hS
      replace hS : Ext _ W9 := hS
      have EW := Lib.hid (HB.out.trans hS)
      clear hS
      go_wp2
      go_roundw
      case rel => exact ⟨k + 1, by omega, by go_num, EW.out⟩
      case measure => simp [intOf]; omega
    · obtain rfl : k = l.length := by omega
      clear hb
      go_wp2
      go_ret
      exact ⟨rfl, HB.out⟩
/-- The first path behind a text, and whether there is one. -/
def nextV (q : List Sp.DE) : Value := match q with | [] => .tuple #[.string ⟨#[]⟩, .bool false] | e :: _ => .tuple #[.string (strOf e.1), .bool true]
set_option maxRecDepth 100000 in
set_option maxHeartbeats 4000000 in
theorem wnext_calls (o : Option Sp.T) (v : Value) (a : Sp.Bs) (w : World) (hal : a.length ≤ 1000000) (hT : TreeAt w v o) (hg : Sp.GoodO o) (hd : ∀ x ∈ Sp.entriesO o, x.1.length ≤ 60) (hs : ∀ e ∈ Sp.told o, e.1.length ≤ 1000) (hl : (Sp.told o).length ≤ 1000) (K : KeysAt w 4) (M : MaxAt w) :
    Calls Tryz.prog 31 #[v, .string (strOf a)] w fun e w' => e = .returned (nextV (Sp.wlist (Sp.told o) [] a 1)) ∧ Ext w w' := by
  have LC := Lib.hid (wlist_calls o v [] a 1 w hal hT hg hd hs hl K M)
  obtain ⟨ap, rfl⟩ := tree_ptr hT
  obtain ⟨q, hq⟩ : ∃ q, q = Sp.wlist (Sp.told o) [] a 1 := ⟨_, rfl⟩
  rw [← hq] at LC ⊢
  have QL := Lib.hid (show q.length ≤ 1000 by rw [hq]; exact Nat.le_trans (Sp.wlist_len _ _ _ _) hl)
  clear hT hg hd hs hl K M hq
  go_enter Tryz.func31, Tryz.ntmps31
  go_wp2_with fail
  refine LC.out.mono ?_
  rintro e w2 ⟨v2, rfl, hO, hb⟩
  obtain ⟨A2, c2, rfl, hE⟩ := hO.read
  have HE := Lib.hid hE
  have B2 := Lib.hid hb
  have ql := QL.out
  clear hO hE hb
  cases q with
  | nil =>
    go_wp2
    go_ret2
    exact ⟨rfl, B2.out⟩
  | cons x r =>
    obtain ⟨g, oo, rfl, hc⟩ := HE.out.at (by simp)
    obtain ⟨Av, cv, c0, _, _⟩ := hc 0 (by simp)
    simp only [List.getElem_cons_zero, Nat.zero_mul, Nat.add_zero] at c0
    obtain ⟨n, hn⟩ : ∃ n, n = (x :: r).length := ⟨_, rfl⟩
    have n0 : 0 < n := by rw [hn]; simp
    have n1 : ((n : Int) == 0) = false := by rw [beq_eq_false_iff_ne]; omega
    have n2 : (0 : Int) < (n : Int) := by omega
    rw [← hn]
    clear hc hn
    go_wp2
    go_ret2
    exact ⟨rfl, B2.out⟩
namespace Sp
structure Both (o : Option T) (m : List DE) : Prop where
  go : GoodO o
  gm : GoodM m
  eq : toP m = entriesO o
theorem both_of (l : List DE) : Both (ofT none l).1 (rof [] l).1 := ⟨ofT_good l none good_none, rof_good l [] goodM_nil, (of_both l none [] rfl good_none).2⟩
theorem Both.told {o : Option T} {m : List DE} (h : Both o m) : Sp.told o = m := told_eq h.eq
theorem Both.short {o : Option T} {m : List DE} (h : Both o m) : ∀ x ∈ entriesO o, x.1.length ≤ 60 := told_short h.eq h.gm
theorem Both.len {o : Option T} {m : List DE} (h : Both o m) : ∀ e ∈ Sp.told o, e.1.length ≤ 1000 := fun e he => by
  rw [h.told] at he
  exact Nat.le_trans (check_parts (h.gm.1 e he)).2.1 (by decide)
theorem Both.many {o : Option T} {m : List DE} (h : Both o m) : (Sp.told o).length ≤ 1000 := by rw [h.told]; exact Nat.le_trans h.gm.2 (by decide)
theorem Both.paths {o : Option T} {m : List DE} (h : Both o m) : ∀ e ∈ Sp.told o, check e.1 = 0 := by rw [h.told]; exact h.gm.1
theorem Both.leaf {o : Option T} {m : List DE} (h : Both o m) : ∀ e ∈ m, e.2.length ≤ 1000000 := told_leaf h.eq h.go
theorem Both.mlen {o : Option T} {m : List DE} (h : Both o m) : ∀ e ∈ m, e.1.length ≤ 1000000 := fun e he => Nat.le_trans (check_parts (h.gm.1 e he)).2.1 (by decide)
theorem Both.mmany {o : Option T} {m : List DE} (h : Both o m) : m.length ≤ 1000 := Nat.le_trans h.gm.2 (by decide)
end Sp
end Go.Proofs.YteiblfcehlibpaaGreatDoor
