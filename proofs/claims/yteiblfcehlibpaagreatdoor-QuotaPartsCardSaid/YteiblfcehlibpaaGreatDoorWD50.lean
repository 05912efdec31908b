/- Walks: WalkDirs. Entries that come in. -/
import Derived.Test.YteiblfcehlibpaaGreatDoorWD49
import Derived.Test.YteiblfcehlibpaaGreatDoorWD34
import Derived.Test.YteiblfcehlibpaaGreatDoorWD14
import Derived.Deep.SlicePairs
import Derived.Carry
import Derived.WideShapes
import Derived.ChangeArms
import Derived.OpenShut
import Derived.MakeChecks
namespace Go.Proofs.YteiblfcehlibpaaGreatDoor
open Go.RowKit Go.Shelf
attribute [local go_sem] yUpon strOf_toList
set_option maxRecDepth 100000 in
set_option maxHeartbeats 4000000 in
theorem walkDirs_calls (l : List Sp.DE) (A : Option Addr) (cap : Nat) (d a : Sp.Bs) (w : World) (hE : EntsAt w A l) (K : KeysAt w 4) (M : MaxAt w) :
    Calls Tryz.prog 7 #[.slice A l.length cap, .string (strOf d), .string (strOf a)] w fun e w' => e = .returned (.bool true) ∧ Ext w w' := by
  have KK := Lib.hid K
  have MM := Lib.hid M
  have HE := Lib.hid hE
  have AW := Lib.hid fun W (e : Ext w W) => awake16_calls W (K.ext e) (max_kept M e)
  clear K M hE
  go_enter Tryz.func7, Tryz.ntmps7
  go_wp2_with fail
  refine (great15_calls l A cap 20 w HE.out (by decide)).mono ?_
  rintro e w1 ⟨b, rfl, hgr, hb1⟩
  have B1 := Lib.hid (show Ext w w1 from hb1)
  clear hb1
  cases b with
  | true =>
    go_wp2_with fail
    refine (AW.out w1 B1.out).mono ?_
    rintro e w2 ⟨rfl, hb2⟩
    go_wp2
    go_ret
    exact ⟨rfl, B1.out.trans hb2⟩
  | false =>
    obtain ⟨hl, hp⟩ := hgr rfl
    by_cases hd : 200 < (strOf d).size
    · have c1 : (200 : Int) < ((strOf d).size : Int) := by omega
      go_wp2_with fail
      refine (AW.out w1 B1.out).mono ?_
      rintro e w2 ⟨rfl, hb2⟩
      go_wp2
      go_ret
      exact ⟨rfl, B1.out.trans hb2⟩
    · have c1 : ¬ (200 : Int) < ((strOf d).size : Int) := by omega
      have DL := Lib.hid (show d.length ≤ 1000000 by rw [strOf_size] at hd; omega)
      by_cases ha : 200 < (strOf a).size
      · have c2 : (200 : Int) < ((strOf a).size : Int) := by omega
        go_wp2_with fail
        refine (AW.out w1 B1.out).mono ?_
        rintro e w2 ⟨rfl, hb2⟩
        go_wp2
        go_ret
        exact ⟨rfl, B1.out.trans hb2⟩
      · have c2 : ¬ (200 : Int) < ((strOf a).size : Int) := by omega
        have AL := Lib.hid (show a.length ≤ 1000000 by rw [strOf_size] at ha; omega)
        clear hd ha
        go_wp2_with fail
        refine (of_calls l A cap w1 (HE.out.ext B1.out) (by omega) (KK.out.ext B1.out) (max_kept MM.out B1.out)).mono ?_
        rintro e w2 ⟨v2, rfl, ht2, hb2⟩
        have T2 := Lib.hid ht2
        have B2 := Lib.hid (B1.out.trans hb2)
        clear ht2 hb2
        go_wp2_with fail
        refine (rof_calls l A cap w2 (HE.out.ext B2.out) (by omega) (fun e he => Nat.le_trans (hp e he) (by decide))).mono ?_
        rintro e w3 ⟨B3, c3, rfl, he3, hb3⟩
        have E3 := Lib.hid he3
        have T3 := Lib.hid (T2.out.ext hb3)
        have B3' := Lib.hid (B2.out.trans hb3)
        clear he3 hb3
        have BO := Lib.hid (Sp.both_of l)
        obtain ⟨o, ho⟩ : ∃ o, o = (Sp.ofT none l).1 := ⟨_, rfl⟩
        obtain ⟨m, hm⟩ : ∃ m, m = (Sp.rof [] l).1 := ⟨_, rfl⟩
        rw [← ho] at T3 BO
        rw [← hm] at E3 BO ⊢
        clear ho hm T2
        have TE := Lib.hid BO.out.told
        have NC := Lib.hid (wnext_calls o v2 a w3 AL.out T3.out BO.out.go BO.out.short BO.out.len BO.out.many (KK.out.ext B3'.out) (max_kept MM.out B3'.out))
        have LC := Lib.hid fun W (e : Ext w3 W) => rlist_calls m B3 c3 [] a 1 W (E3.out.ext e) BO.out.mmany BO.out.mlen (by decide) AL.out
        have WD := Lib.hid fun W (e : Ext w3 W) => wdirs_calls o v2 d W (T3.out.ext e) BO.out.go BO.out.short BO.out.len BO.out.many (KK.out.ext (B3'.out.trans e)) (max_kept MM.out (B3'.out.trans e))
        have RD := Lib.hid fun W (e : Ext w3 W) => rdirs_calls m B3 c3 d W (E3.out.ext e) BO.out.mmany BO.out.mlen DL.out
        have WP := Lib.hid fun W (e : Ext w3 W) => wdepth_calls o v2 W (T3.out.ext e) BO.out.go BO.out.short BO.out.paths BO.out.many (KK.out.ext (B3'.out.trans e))
        have RP := Lib.hid fun W (e : Ext w3 W) => rdepth_calls m B3 c3 W (E3.out.ext e) BO.out.mmany BO.out.mlen
        have TC := Lib.hid fun A B c c' W (h : Nams W A (Sp.dirsS m d)) (h' : Nams W B (Sp.dirsS m d)) => texts_calls (Sp.dirsS m d) A B c c' W h h' (Nat.le_trans (Nat.le_trans (Sp.ddf_len _) (Sp.dnames_len _ _)) (Nat.le_trans (Sp.wunder_len m d) (Nat.le_trans BO.out.mmany (by decide))))
        have QL := Lib.hid (show (Sp.wlist m [] a 1).length ≤ 1 by unfold Sp.wlist; rw [List.length_take]; exact Nat.min_le_left _ _)
        rw [TE.out] at NC WD WP
        obtain ⟨q, hq⟩ : ∃ q, q = Sp.wlist m [] a 1 := ⟨_, rfl⟩
        rw [← hq] at NC LC QL
        obtain ⟨ds, hds⟩ : ∃ ds, ds = Sp.dirsS m d := ⟨_, rfl⟩
        rw [← hds] at WD RD TC
        obtain ⟨dn, hdn⟩ : ∃ dn, dn = Sp.depthS m := ⟨_, rfl⟩
        rw [← hdn] at WP RP
        obtain ⟨ap, rfl⟩ := tree_ptr T3.out
        clear hq hds hdn hp
        cases q with
        | nil =>
          unfold nextV at NC
          go_wp2_with fail
          refine NC.out.mono ?_
          rintro e w4 ⟨rfl, hb4⟩
          have B4 := Lib.hid hb4
          clear hb4
          go_wp2_with fail
          refine (LC.out w4 B4.out).mono ?_
          rintro e w5 ⟨B5', c5, rfl, he5, hb5⟩
          have B5 := Lib.hid (B4.out.trans hb5)
          clear he5 hb5
          go_wp2_with fail
          refine (WD.out w5 B5.out).mono ?_
          rintro e w6 ⟨A6, c6, rfl, hn6, hb6⟩
          have N6 := Lib.hid hn6
          have B6 := Lib.hid (B5.out.trans hb6)
          clear hn6 hb6
          go_wp2_with fail
          refine (RD.out w6 B6.out).mono ?_
          rintro e w7 ⟨A7, c7, rfl, hn7, hb7⟩
          have N7 := Lib.hid hn7
          have N67 := Lib.hid (N6.out.ext hb7)
          have B7 := Lib.hid (B6.out.trans hb7)
          clear hn7 hb7
          go_wp2_with fail
          refine (TC.out A6 A7 c6 c7 w7 N67.out N7.out).mono ?_
          rintro e w8 ⟨rfl, hb8⟩
          have B8 := Lib.hid (B7.out.trans hb8)
          clear hb8
          go_wp2_with fail
          refine (WP.out w8 B8.out).mono ?_
          rintro e w9 ⟨rfl, hb9⟩
          have B9 := Lib.hid (B8.out.trans hb9)
          clear hb9
          go_wp2_with fail
          refine (RP.out w9 B9.out).mono ?_
          rintro e w10 ⟨rfl, hb10⟩
          have B10 := Lib.hid (B9.out.trans hb10)
          clear hb10
          go_wp2_with fail
          refine (AW.out w10 (B3'.out.trans B10.out)).mono ?_
          rintro e w11 ⟨rfl, hb11⟩
          go_wp2
          go_ret
          exact ⟨rfl, (B3'.out.trans B10.out).trans hb11⟩
        | cons x r =>
          have hr : r = [] := List.eq_nil_of_length_eq_zero (by have h := QL.out; rw [List.length_cons] at h; omega)
          subst hr
          unfold nextV at NC
          go_wp2_with fail
          refine NC.out.mono ?_
          rintro e w4 ⟨rfl, hb4⟩
          have B4 := Lib.hid hb4
          clear hb4
          go_wp2_with fail
          refine (LC.out w4 B4.out).mono ?_
          rintro e w5 ⟨B5', c5, rfl, he5, hb5⟩
          obtain ⟨qb, qo, rfl, hq⟩ := he5.at (by simp)
          obtain ⟨Av, cv, q0, _, _⟩ := hq 0 (by simp)
          simp only [List.getElem_cons_zero, Nat.zero_mul, Nat.add_zero] at q0
          have B5 := Lib.hid (B4.out.trans hb5)
          have xx : (x.1 != x.1) = false := by simp
          clear he5 hb5 hq
          go_wp2_with fail
          refine (WD.out w5 B5.out).mono ?_
          rintro e w6 ⟨A6, c6, rfl, hn6, hb6⟩
          have N6 := Lib.hid hn6
          have B6 := Lib.hid (B5.out.trans hb6)
          clear hn6 hb6
          go_wp2_with fail
          refine (RD.out w6 B6.out).mono ?_
          rintro e w7 ⟨A7, c7, rfl, hn7, hb7⟩
          have N7 := Lib.hid hn7
          have N67 := Lib.hid (N6.out.ext hb7)
          have B7 := Lib.hid (B6.out.trans hb7)
          clear hn7 hb7
          go_wp2_with fail
          refine (TC.out A6 A7 c6 c7 w7 N67.out N7.out).mono ?_
          rintro e w8 ⟨rfl, hb8⟩
          have B8 := Lib.hid (B7.out.trans hb8)
          clear hb8
          go_wp2_with fail
          refine (WP.out w8 B8.out).mono ?_
          rintro e w9 ⟨rfl, hb9⟩
          have B9 := Lib.hid (B8.out.trans hb9)
          clear hb9
          go_wp2_with fail
          refine (RP.out w9 B9.out).mono ?_
          rintro e w10 ⟨rfl, hb10⟩
          have B10 := Lib.hid (B9.out.trans hb10)
          clear hb10
          go_wp2_with fail
          refine (AW.out w10 (B3'.out.trans B10.out)).mono ?_
          rintro e w11 ⟨rfl, hb11⟩
          go_wp2
          go_ret
          exact ⟨rfl, (B3'.out.trans B10.out).trans hb11⟩
theorem walkDirs_bs (l : List Sp.DE) (A : Option Addr) (cap : Nat) (d a : ByteArray) (w : World) (hE : EntsAt w A l) (K : KeysAt w 4) (M : MaxAt w) :
    Calls Tryz.prog 7 #[.slice A l.length cap, .string d, .string a] w fun e w' => e = .returned (.bool true) ∧ Ext w w' := by
  have := walkDirs_calls l A cap d.data.toList a.data.toList w hE K M
  rwa [strOf_self, strOf_self] at this
end Go.Proofs.YteiblfcehlibpaaGreatDoor
namespace Go.Proofs.YteiblfcehlibpaaGreatDoor
open Go.RowKit Go.ChangeShapes Go.WideShapes Go.Deep
theorem addr_plus (g o j : Nat) : (⟨g, o, none⟩ : Addr).add j = ⟨g, o + j, none⟩ := by simp [Addr.add]
theorem cells_dots {w : World} {g o : Nat} {l : List Sp.Dot} (h : ∀ k (hk : k < l.length), w.cell? ⟨g, o + k * 2, none⟩ = some (.int .i64 (l[k]).1) ∧ w.cell? ⟨g, o + k * 2 + 1, none⟩ = some (.int .i64 (l[k]).2)) : Dots w (some ⟨g, o, none⟩) l := fun _ =>
  ⟨g, o, rfl, fun i u hi => by
    have hil : i < l.length * 2 := by
      rw [← dotsC_len]
      exact (List.getElem?_eq_some_iff.1 hi).1
    have hk : i / 2 < l.length := by omega
    have h1 := dotsC_get l (i / 2) hk
    have h2 := h (i / 2) hk
    rcases Nat.mod_two_eq_zero_or_one i with h0 | h0
    · have e : i / 2 * 2 = i := by omega
      rw [e] at h1 h2
      rw [h1.1] at hi
      rw [h2.1, hi]
    · have e : i / 2 * 2 + 1 = i := by omega
      have e2 : o + i / 2 * 2 + 1 = o + i := by omega
      rw [e] at h1
      rw [e2] at h2
      rw [h1.2] at hi
      rw [h2.2, hi]⟩
theorem cells_vers {w : World} {g o : Nat} {m : List (Option Addr × Nat × Sp.Ver)} (h : ∀ k (hk : k < m.length) j u, (verC m[k].1 m[k].2.1 m[k].2.2)[j]? = some u → w.cell? ⟨g, o + (k * 5 + j), none⟩ = some u) : Cells w (some ⟨g, o, none⟩) (versC m) := fun _ =>
  ⟨g, o, rfl, fun i u hi => by
    have hil : i < m.length * 5 := by
      rw [← versC_len]
      exact (List.getElem?_eq_some_iff.1 hi).1
    have hk : i / 5 < m.length := by omega
    have e : i / 5 * 5 + i % 5 = i := by omega
    have h1 := versC_get m (i / 5) (i % 5) hk (by omega)
    rw [e, hi] at h1
    have := h (i / 5) hk (i % 5) u h1.symm
    rwa [e] at this⟩
theorem cells_ents {w : World} {g o : Nat} {m : List (Option Addr × Nat × Sp.DE)} (h : ∀ k (hk : k < m.length), w.cell? ⟨g, o + k * 2, none⟩ = some (.string (strOf m[k].2.2.1)) ∧ w.cell? ⟨g, o + k * 2 + 1, none⟩ = some (.slice m[k].1 m[k].2.2.2.length m[k].2.1)) : Cells w (some ⟨g, o, none⟩) (entsC m) := fun _ =>
  ⟨g, o, rfl, fun i u hi => by
    have hil : i < m.length * 2 := by
      rw [← entsC_len]
      exact (List.getElem?_eq_some_iff.1 hi).1
    have hk : i / 2 < m.length := by omega
    have e : i / 2 * 2 + i % 2 = i := by omega
    have h1 := entsC_get m (i / 2) (i % 2) hk (by omega)
    rw [e, hi] at h1
    have h2 := h (i / 2) hk
    rcases Nat.mod_two_eq_zero_or_one i with h0 | h0
    · rw [h0] at h1 e
      rw [show i / 2 * 2 = i by omega] at h2
      rw [h2.1]
      simpa [entC] using h1.symm
    · rw [h0] at h1 e
      rw [show o + i / 2 * 2 + 1 = o + i by omega] at h2
      rw [h2.2]
      simpa [entC] using h1.symm⟩
section
variable {H : Type} {enc : TypeId × Value → H} {w : World} {base : Nat} {spare : Nat → Bool} {held : Bool}
theorem weights_mem {P : Program} {e : TypeId} : ∀ (l : List (DataW H)) (d : DataW H), d ∈ l → (DataW.weightsAll P e l).all (· ≤ reachBytes) = true → (d.weights P e).all (· ≤ reachBytes) = true
  | x :: r, d, h, ha => by
    unfold DataW.weightsAll at ha
    rw [List.all_append, Bool.and_eq_true] at ha
    rcases List.mem_cons.1 h with rfl | h
    · exact ha.1
    · exact weights_mem r d h ha.2
set_option maxRecDepth 100000 in
theorem open_dots {n : Nat} {cs : List Value} {x : DataW H × List MemPlace} (h : DataW.trod enc Tryz.prog w base spare held n 73 cs = some x) :
    ∃ (l : List Sp.Dot) (A : Option Addr) (cap : Nat), cs = [.slice A l.length cap] ∧ Dots w A l ∧ ((x.1.weights Tryz.prog 73).all (· ≤ reachBytes) = true → l.length ≤ 140737488351232) := by
  rcases open_slice_pairs Tryz.underlying73 Tryz.underlying72 (by kernel_rfl) rfl rfl (by kernel_rfl) (by kernel_rfl) h with ⟨hc, _⟩ | ⟨a, len, cap, m, n, V0, V1, D0, D1, P0, P1, hc, _, hl, hm, hmm, hx, hall⟩
  · exact ⟨[], none, 0, hc, Cells.nil _ _, fun _ => Nat.zero_le _⟩
  · have hlm : len ≤ m := by rw [hmm]; split <;> omega
    obtain ⟨g, o, spot⟩ := a
    refine ⟨(List.range len).map fun i => (intOf (V0 i), intOf (V1 i)), some ⟨g, o, spot⟩, cap, by simpa using hc, ?_, ?_⟩
    · rcases Nat.eq_zero_or_pos len with h0 | h0
      · subst h0; exact Cells.nil _ _
      · have hspot : spot = none := by simpa [Addr.add] using World.cell?_spot (hall 0 (by omega)).1
        subst hspot
        refine cells_dots fun k hk => ?_
        have hk' : k < len := by simpa using hk
        obtain ⟨h1, h2, h3, h4⟩ := hall k (by omega)
        obtain ⟨u, hu, _⟩ := DataW.trod_int Tryz.underlying3 h3
        obtain ⟨v, hv, _⟩ := DataW.trod_int Tryz.underlying3 h4
        simp only [List.cons.injEq, and_true] at hu hv
        rw [hu] at h1
        rw [hv] at h2
        rw [addr_plus] at h1 h2
        simp only [List.getElem_map, List.getElem_range, hu, hv, intOf]
        exact ⟨h1, h2⟩
    · intro ha
      rw [hx] at ha
      unfold DataW.weights at ha
      rw [Tryz.underlying73] at ha
      simp only [List.all_cons, Bool.and_eq_true, decide_eq_true_eq, List.length_map, List.length_range] at ha
      have hb : Tryz.prog.bytesOf 72 = 16 := by kernel_rfl
      have := ha.1
      rw [hb] at this
      simp only [reachBytes] at this
      simp only [List.length_map, List.length_range]
      omega
set_option maxRecDepth 100000 in
theorem open_ver {n : Nat} {cs : List Value} {x : DataW H × List MemPlace} (h : DataW.trod enc Tryz.prog w base spare held n 75 cs = some x) :
    ∃ y : Option Addr × Nat × Sp.Ver, cs = (verC y.1 y.2.1 y.2.2).toList ∧ Dots w y.1 y.2.2.past ∧ ((x.1.weights Tryz.prog 75).all (· ≤ reachBytes) = true → y.2.2.past.length ≤ 140737488351232) := by
  obtain ⟨xs, k, _, rfl, hl, hlen, hf⟩ := DataW.trod_struct Tryz.underlying75 h
  have c0 : Tryz.prog.cellsOf 75 = 5 := by kernel_rfl
  have c1 : Tryz.prog.cellsOf 72 = 2 := by kernel_rfl
  have c2 : Tryz.prog.cellsOf 73 = 1 := by kernel_rfl
  have c3 : Tryz.prog.cellsOf 4 = 1 := by kernel_rfl
  have c4 : Tryz.prog.cellsOf 9 = 1 := by kernel_rfl
  have c5 : Tryz.prog.cellsOf 3 = 1 := by kernel_rfl
  rw [c0] at hl
  match cs, hl, xs, hlen with
  | [a, b, c, d, e], _, [y0, y1, y2, y3], _ =>
    have g0 := hf 0 _ rfl
    have g1 := hf 1 _ rfl
    have g2 := hf 2 _ rfl
    have g3 := hf 3 _ rfl
    simp at g0 g1 g2 g3
    rw [c1] at g0
    rw [c2] at g1
    rw [c3] at g2
    rw [c4] at g3
    simp only [List.take_succ_cons, List.take_zero] at g0 g1 g2 g3
    obtain ⟨zs, k0, _, hz, hzl, hzlen, hzf⟩ := DataW.trod_struct Tryz.underlying72 g0
    match zs, hzlen with
    | [z0, z1], _ =>
      have i0 := hzf 0 _ rfl
      have i1 := hzf 1 _ rfl
      simp at i0 i1
      rw [c5] at i0 i1
      simp only [List.take_succ_cons, List.take_zero] at i0 i1
      obtain ⟨p, hp, _⟩ := DataW.trod_int Tryz.underlying3 i0
      obtain ⟨q, hq, _⟩ := DataW.trod_int Tryz.underlying3 i1
      obtain ⟨l, A, cap, hA, hd, hw⟩ := open_dots g1
      obtain ⟨bb, hbb, _⟩ := DataW.trod_bool Tryz.underlying4 g2
      obtain ⟨s, hs, _⟩ := DataW.trod_string Tryz.underlying9 g3
      simp only [List.cons.injEq, and_true] at hp hq hA hbb hs
      subst hp hq hA hbb hs
      refine ⟨(A, cap, ⟨(p, q), l, bb, s.data.toList⟩), ?_, hd, fun ha => hw ?_⟩
      · simp [strOf_self]
      · unfold DataW.weights at ha
        rw [Tryz.underlying75] at ha
        simp [DataW.weightsEach, List.all_append] at ha
        simpa using ha.2.1
set_option maxRecDepth 100000 in
theorem open_vers {n : Nat} {cs : List Value} {x : DataW H × List MemPlace} (h : DataW.trod enc Tryz.prog w base spare held n 49 cs = some x) :
    ∃ (l : List Sp.Ver) (A : Option Addr) (cap : Nat), cs = [.slice A l.length cap] ∧ ((x.1.weights Tryz.prog 49).all (· ≤ reachBytes) = true → Vers w A l) := by
  have ce : Tryz.prog.cellsOf 75 = 5 := by kernel_rfl
  rcases open_slice Tryz.underlying49 h with ⟨hc, _⟩ | ⟨a, len, cap, m, n, D, Pl, hc, _, hl, hm, hmm, hx, hall⟩
  · exact ⟨[], none, 0, hc, fun _ => Vers.nil _ _⟩
  · have hlm : len ≤ m := by rw [hmm]; split <;> omega
    obtain ⟨f, hf⟩ := choose_lt (n := len) (fun i hi => by
      obtain ⟨cs', h1, h2⟩ := hall i (by omega)
      obtain ⟨y, h3, h4, h5⟩ := open_ver h2
      exact ⟨y, (show w.cells? base (a.add (i * Tryz.prog.cellsOf 75)) (Tryz.prog.cellsOf 75) = some (verC y.1 y.2.1 y.2.2).toList ∧ Dots w y.1 y.2.2.past ∧ (((D i).weights Tryz.prog 75).all (· ≤ reachBytes) = true → y.2.2.past.length ≤ 140737488351232) from ⟨by rw [h1, h3], h4, h5⟩)⟩)
    obtain ⟨g, o, spot⟩ := a
    refine ⟨(List.range len).map fun i => (f i).2.2, some ⟨g, o, spot⟩, cap, by simpa using hc, fun ha => ?_⟩
    rcases Nat.eq_zero_or_pos len with h0 | h0
    · subst h0; exact Vers.nil _ _
    · have hcell : ∀ i, i < len → ∀ j u, (verC (f i).1 (f i).2.1 (f i).2.2)[j]? = some u → w.cell? ((⟨g, o, spot⟩ : Addr).add (i * 5 + j)) = some u := by
        intro i hi j u hj
        have h1 := (hf i hi).1
        rw [ce] at h1
        obtain ⟨_, h2, h3⟩ := World.cells?_some h1
        have hj5 : j < 5 := by
          have := (Array.getElem?_eq_some_iff.1 hj).1
          simpa using this
        have := h3 j hj5
        rw [add_add] at this
        rw [this, ← hj]
        simp
      have hspot : spot = none := by
        have := World.cell?_spot (hcell 0 h0 0 _ rfl)
        simpa [Addr.add] using this
      subst hspot
      refine ⟨(List.range len).map f, by simp, ?_, ?_⟩
      · refine cells_vers fun k hk j u hj => ?_
        have hk' : k < len := by simpa using hk
        simp only [List.getElem_map, List.getElem_range] at hj
        have := hcell k hk' j u hj
        rwa [addr_plus] at this
      · intro y hy
        obtain ⟨i, hi, rfl⟩ := List.mem_map.1 hy
        have hi' : i < len := by simpa using hi
        refine ⟨(hf i hi').2.1, (hf i hi').2.2 ?_⟩
        rw [hx] at ha
        unfold DataW.weights at ha
        rw [Tryz.underlying49] at ha
        simp only [List.all_cons, List.all_append, Bool.and_eq_true] at ha
        exact weights_mem _ _ (List.mem_map.2 ⟨i, List.mem_range.2 hi', rfl⟩) ha.2.1
set_option maxRecDepth 100000 in
theorem open_ents {n : Nat} {cs : List Value} {x : DataW H × List MemPlace} (h : DataW.trod enc Tryz.prog w base spare held n 22 cs = some x) :
    ∃ (l : List Sp.DE) (A : Option Addr) (cap : Nat), cs = [.slice A l.length cap] ∧ ((x.1.weights Tryz.prog 22).all (· ≤ reachBytes) = true → EntsAt w A l) := by
  rcases open_slice_pairs Tryz.underlying22 Tryz.underlying51 (by kernel_rfl) rfl rfl (by kernel_rfl) (by kernel_rfl) h with ⟨hc, _⟩ | ⟨a, len, cap, m, n, V0, V1, D0, D1, P0, P1, hc, _, hl, hm, hmm, hx, hall⟩
  · exact ⟨[], none, 0, hc, fun _ => ⟨[], rfl, Cells.nil _ _, fun _ h => by cases h⟩⟩
  · have hlm : len ≤ m := by rw [hmm]; split <;> omega
    obtain ⟨g, o, spot⟩ := a
    obtain ⟨f, hf⟩ := choose_lt (n := len) (p := fun i (y : Option Addr × Nat × Sp.DE) => w.cell? ((⟨g, o, spot⟩ : Addr).add (i * 2)) = some (.string (strOf y.2.2.1)) ∧ w.cell? ((⟨g, o, spot⟩ : Addr).add (i * 2 + 1)) = some (.slice y.1 y.2.2.2.length y.2.1) ∧ (((D1 i).weights Tryz.prog 49).all (· ≤ reachBytes) = true → Vers w y.1 y.2.2.2)) (fun i hi => by
      obtain ⟨h1, h2, h3, h4⟩ := hall i (by omega)
      obtain ⟨s, hs, _⟩ := DataW.trod_string Tryz.underlying9 h3
      obtain ⟨l, A, c, hA, hv⟩ := open_vers h4
      simp only [List.cons.injEq, and_true] at hs hA
      exact ⟨(A, c, (s.data.toList, l)), by rw [h1, hs, strOf_self], by rw [h2, hA], hv⟩)
    refine ⟨(List.range len).map fun i => (f i).2.2, some ⟨g, o, spot⟩, cap, by simpa using hc, fun ha => ?_⟩
    rcases Nat.eq_zero_or_pos len with h0 | h0
    · subst h0; exact ⟨[], rfl, Cells.nil _ _, fun _ h => by cases h⟩
    · have hspot : spot = none := by simpa [Addr.add] using World.cell?_spot (hall 0 (by omega)).1
      subst hspot
      refine ⟨(List.range len).map f, by simp, cells_ents fun k hk => ?_, ?_⟩
      · have hk' : k < len := by simpa using hk
        obtain ⟨h1, h2, _⟩ := hf k hk'
        rw [addr_plus] at h1 h2
        simp only [List.getElem_map, List.getElem_range]
        exact ⟨h1, h2⟩
      · intro y hy
        obtain ⟨i, hi, rfl⟩ := List.mem_map.1 hy
        have hi' : i < len := by simpa using hi
        refine (hf i hi').2.2 ?_
        rw [hx] at ha
        unfold DataW.weights at ha
        rw [Tryz.underlying22] at ha
        simp only [List.all_cons, List.all_append, Bool.and_eq_true] at ha
        have h1 := weights_mem _ _ (List.mem_map.2 ⟨i, List.mem_range.2 hi', rfl⟩) ha.2.1
        unfold DataW.weights at h1
        rw [Tryz.underlying51] at h1
        simp [DataW.weightsEach, List.all_append] at h1
        simpa using h1.2
set_option maxRecDepth 100000 in
/-- A digest that comes in. -/
theorem open_dig {P : List MemPlace} {b0 : Nat} {v : Value} {x : DataW H} (hval : Value.okWide Tryz.prog w .any b0 110 v) (h : DataW.Trod enc Tryz.prog w base spare held 110 v x P) : ∃ d : Sp.Bs, d.length = 32 ∧ v = digV d := by
  obtain ⟨cs, rfl⟩ : ∃ cs, v = .agg cs := by
    simp only [Value.okWide, Tryz.underlying110] at hval
    obtain ⟨cs, h, _⟩ := hval
    exact ⟨cs, h⟩
  obtain ⟨n, hn⟩ := h
  have e0 : (Value.agg cs).cells.toList = cs.toList := rfl
  rw [e0] at hn
  obtain ⟨xs, k, _, _, hlen, hxl, hf⟩ := DataW.trod_array Tryz.underlying110 hn
  have c1 : Tryz.prog.cellsOf 110 = 32 := by kernel_rfl
  have c2 : Tryz.prog.cellsOf 5 = 1 := by kernel_rfl
  rw [c1] at hlen
  have hi : ∀ i (h : i < cs.toList.length), ∃ b : UInt8, cs.toList[i] = byteV b := fun i h => by
    have h5 := hf i (by omega)
    rw [c2, Nat.mul_one, List.drop_eq_getElem_cons h, List.take_succ_cons, List.take_zero, List.getElem?_eq_getElem (by omega)] at h5
    obtain ⟨m, h6, _, hw⟩ := DataW.trod_int Tryz.underlying5 h5
    simp only [List.cons.injEq, and_true] at h6
    have hb : 0 ≤ m ∧ m ≤ 255 := by
      simp [Lit.wf, IntKind.min, IntKind.max, IntKind.signed, IntKind.bits] at hw
      omega
    refine ⟨UInt8.ofNat m.toNat, ?_⟩
    rw [h6]
    unfold byteV
    congr 1
    simp
    omega
  obtain ⟨f, hf2⟩ := choose_lt (n := 32) (p := fun i (b : UInt8) => ∀ h : i < cs.toList.length, cs.toList[i] = byteV b) (fun i h => by
    obtain ⟨b, hb⟩ := hi i (by omega)
    exact ⟨b, fun _ => hb⟩)
  refine ⟨(List.range 32).map f, by simp, ?_⟩
  congr 1
  apply Array.ext'
  rw [show (digC ((List.range 32).map f)).toList = ((List.range 32).map f).map byteV by simp [digC]]
  apply List.ext_getElem
  · simp; simpa using hlen
  · intro i h1 h2
    rw [hf2 i (by simpa using h2) h1]
    simp
end
theorem laid_var {P : Program} {w : World} : ∀ {l : List (String × DataW Unit)} {ps : List MemPlace}, DataW.LaidVars P w l ps → ∀ n d, (n, d) ∈ l →
    ∃ g t cs fuel p, P.globalNamed n = some g ∧ (P.globals[g]?).map (·.type) = some t ∧ w.var? P n = some cs ∧ DataW.trod (fun _ => ()) P w 0 (fun _ => true) false fuel t cs.toList = some (d, p)
  | (_, _) :: _, _, ⟨g, t, cs, fuel, p, q, h1, h2, h3, h4, h5, _⟩, n, d, h => by
    rcases List.mem_cons.1 h with h | h
    · cases h; exact ⟨g, t, cs, fuel, p, h1, h2, h3, h4⟩
    · exact laid_var h5 n d h
/-- The words of a digest's table, out of what is laid. -/
theorem keys_laid {P : Program} {w : World} {laid : List (String × DataW Unit)} {n : String} {g t e : Nat} (h : laidMetH P laid w) (hp : (laid.all fun x => x.2.handleName?.isNone) = true) (hg : P.globalNamed n = some g) (ht : (P.globals[g]?).map (·.type) = some t)
    (hu : P.underlying t = some (.array 64 e)) (he : P.underlying e = some (.int .u32)) (hc : P.cellsOf e = 1) (hct : P.cellsOf t = 64) (hm : (n, DataW.agg (Sp.keys.map fun k => .lit (.int .u32 (wd k)))) ∈ laid) : KeysAt w g := by
  rw [Go.MakeChecks.laidMetH_plain P laid w hp] at h
  obtain ⟨ps, hl, _⟩ := h
  obtain ⟨g', t', cs, fuel, p, h1, h2, h3, h4⟩ := laid_var hl _ _ hm
  obtain rfl : g' = g := Option.some.inj (h1.symm.trans hg)
  obtain rfl : t' = t := Option.some.inj (h2.symm.trans ht)
  obtain ⟨xs, k, _, hx, hlen, hxl, hf⟩ := DataW.trod_array hu h4
  rw [hct] at hlen
  simp only [Prod.mk.injEq, DataW.agg.injEq] at hx
  intro i hi
  have hkl : Sp.keys.length = 64 := by decide
  have h5 := hf i hi
  rw [hc, Nat.mul_one] at h5
  have hci : i < cs.toList.length := by omega
  rw [List.drop_eq_getElem_cons hci, List.take_succ_cons, List.take_zero, List.getElem?_eq_getElem (by omega)] at h5
  obtain ⟨m, h6, h7, _⟩ := DataW.trod_int he h5
  simp only [List.cons.injEq, and_true] at h6
  have h8 := congrArg (fun l => l[i]?) hx.1
  simp only [List.getElem?_map, List.getElem?_eq_getElem (show i < Sp.keys.length by omega), List.getElem?_eq_getElem (show i < xs.length by omega), h7, Option.map_some, Option.some.injEq, DataW.lit.injEq, Lit.int.injEq, true_and] at h8
  unfold World.var? at h3
  rw [h1] at h3
  simp only [Option.bind_some] at h3
  unfold World.cell?
  simp only
  split at h3
  · rename_i cs' t2 x2 hh
    obtain rfl : cs' = cs := Option.some.inj h3
    rw [hh]
    simp only [List.getD_eq_getElem?_getD, List.getElem?_eq_getElem (show i < Sp.keys.length by omega), Option.getD_some]
    have : cs'[i]? = some (.int .u32 m) := by
      rw [← h6]; simp
    rw [this, ← h8]
    rfl
  · cases h3
end Go.Proofs.YteiblfcehlibpaaGreatDoor
