/- Walks: the names right below a directory, the document's. Walks: whether the document's tree has a node at a directory. Walks: which of two paths stands ahead, the reference's. Walks: the document's tree with a leaf at a path. Walks: the document's tree of some entries. The tree of some entries and the document's: plain. A directory below a directory, in the document's words: plain. -/
import Derived.Test.YtmlkachfahabnaaGreatDoorTA36
import Derived.Test.YtmlkachfahabnaaGreatDoorTA27
import Derived.Test.YtmlkachfahabnaaGreatDoorTA01
import Derived.Deep.DeepCutAuto
namespace Go.Proofs.YtmlkachfahabnaaGreatDoor
open Go.RowKit Go.Shelf
attribute [local go_sem] yUpon strOf_toList
namespace Sp
def nxt (out : List Bs) (s : Bs) : List Bs := if out.getLast? = some s then out else out ++ [s]
theorem under_lt {p d : Bs} (h : under p d = true) : (parts d).length < (parts p).length := by
  unfold under at h
  simp only [Bool.and_eq_true, decide_eq_true_eq] at h
  exact h.1.2
end Sp
set_option maxRecDepth 100000 in
set_option maxHeartbeats 4000000 in
theorem rnames_own (l : List Sp.DE) (A : Option Addr) (cap : Nat) (d : Sp.Bs) (w : World) (h : EntsAt w A l) (hl : l.length ≤ 1000000) (hpl : ∀ e ∈ l, e.1.length ≤ 1000000) (hdl : d.length ≤ 1000000) :
    Calls Tryz.prog 31 #[.slice A l.length cap, .string (strOf d)] w fun e w' => ∃ v, e = .returned v ∧ w'.ownsRow w.heap.size 9 1 v (Sp.rnames d [] l).length (strsC (Sp.rnames d [] l)) ∧ Ext w w' := by
  have HH := Lib.hid h
  have HPL := Lib.hid hpl
  clear h hpl
  go_enter Tryz.func31, Tryz.ntmps31
  go_wp2
  go_loopw [5, 6] (fun v5 v6 wr => ∃ (k : Nat) (out : List Sp.Bs) (v : Value), k ≤ l.length ∧ v = v5 ∧ v6 = .int .i64 k ∧ out.length ≤ k ∧ wr.ownsRow w.heap.size 9 1 v out.length (strsC out) ∧ Sp.rnames d out (l.drop k) = Sp.rnames d [] l ∧ Ext w wr) (fun _ v6 _ => l.length - (intOf v6).toNat)
  case atStart => exact ⟨0, [], _, Nat.zero_le _, rfl, rfl, Nat.le_refl _, World.ownsRow_nil _ _ _ _, rfl, Ext.refl _⟩
  case round =>
    obtain ⟨k, out, v, hk2, rfl, rfl, hol, ho, hr, hb⟩ := hrel
    have HO := Lib.hid ho
    have HB := Lib.hid hb
    clear ho hb
    by_cases hlt : k < l.length
    · obtain ⟨eb, eo, rfl, he⟩ := HH.out.at (by omega)
      obtain ⟨Av, cv, c0, _, _⟩ := he k hlt
      obtain ⟨x, hx⟩ : ∃ x, x = l[k] := ⟨_, rfl⟩
      have RS := Lib.hid (show (if Sp.under x.1 d = true then Sp.rnames d (Sp.nxt out ((Sp.parts x.1).getD (Sp.parts d).length [])) (l.drop (k + 1)) else Sp.rnames d out (l.drop (k + 1))) = Sp.rnames d [] l by
        rw [← hr, List.drop_eq_getElem_cons hlt, hx]; rfl)
      have XL := Lib.hid (show x.1.length ≤ 1000000 by rw [hx]; exact HPL.out _ (List.getElem_mem hlt))
      rw [← hx] at c0
      have C0 := Lib.hid c0
      have x0 := HB.out.cell c0
      have b1 : (k : Int) < (l.length : Int) := by omega
      clear hr he hx c0
      go_wp2_with fail
      refine (under_calls x.1 d wr XL.out hdl).mono ?_
      rintro e w1 ⟨rfl, hb1⟩
      have B1 := Lib.hid (show Ext wr w1 from hb1)
      clear hb1 x0
      by_cases hu : Sp.under x.1 d = true
      · have RS2 := Lib.hid (show Sp.rnames d (Sp.nxt out ((Sp.parts x.1).getD (Sp.parts d).length [])) (l.drop (k + 1)) = Sp.rnames d [] l by rw [← RS.out, if_pos hu])
        have LT := Lib.hid (Sp.under_lt hu)
        have x1 := (HB.out.trans B1.out).cell C0.out
        rw [hu]
        clear hu
        go_wp2_with fail
        refine (rparts_calls (strOf x.1) w1 (by rw [strOf_size]; have := XL.out; omega)).mono ?_
        intro e w2 ht
        obtain ⟨A2, c2, rfl, _, hN2, hb2⟩ := ht.nams
        rw [strOf_data] at hN2 ⊢
        have N2 := Lib.hid hN2
        have B2 := Lib.hid (show Ext wr w2 from B1.out.trans hb2)
        clear ht hN2 hb2 x1
        go_wp2_with fail
        refine (rparts_calls (strOf d) w2 (by rw [strOf_size]; omega)).mono ?_
        intro e w3 ht
        obtain ⟨A3, c3, rfl, _, _, hb3⟩ := ht.nams
        rw [strOf_data] at ⊢
        have B3 := Lib.hid (show Ext wr w3 from B2.out.trans hb3)
        have N3 := Lib.hid (N2.out.ext hb3)
        have HO3 := Lib.hid (own_ext HO.out B3.out)
        clear ht hb3
        obtain ⟨j, hj⟩ : ∃ j, j = (Sp.parts d).length := ⟨_, rfl⟩
        obtain ⟨P, hP⟩ : ∃ P, P = Sp.parts x.1 := ⟨_, rfl⟩
        rw [← hj, ← hP] at LT RS2
        rw [← hP] at N3
        rw [← hj, ← hP]
        have hjP := LT.out
        obtain ⟨a2, o2, rfl, hn2⟩ := N3.out.at (by omega)
        obtain ⟨s, hs⟩ : ∃ s, s = P[j] := ⟨_, rfl⟩
        have s1 := hn2 j hjP
        rw [← hs] at s1
        have RS3 := Lib.hid (show Sp.rnames d (Sp.nxt out s) (l.drop (k + 1)) = Sp.rnames d [] l by
          rw [← RS2.out, List.getD_eq_getElem?_getD, List.getElem?_eq_getElem hjP, ← hs]; rfl)
        have d1 : (j : Int) < (P.length : Int) := by omega
        have E3 := Lib.hid (HB.out.trans B3.out)
        clear hj hP hn2 hs
        by_cases h0 : out = []
        · subst h0
          have NX := Lib.hid (show Sp.nxt [] s = [s] from rfl)
          rcases own_form HO3.out with ⟨rfl, _, _⟩ | ⟨go, co, rfl, _, _⟩
          · go_wp2_with (at_builtin; refine app_new appStr rfl _ _ rfl w.heap.size _ 0 _ rfl HO3.out #[.string (strOf s)] 9 1 rfl rfl (by intro u hu; simp at hu; subst hu; rfl) (by decide) (by omega) E3.out.size ?_; intro g4 cap4 w4 hown4 hgr4 hb4 hbg4; have O4 := Lib.hid hown4; have B4 := Lib.hid (Below.trans E3.out hb4); clear hown4 hgr4 hb4 hbg4)
            refine ⟨⟨k + 1, [s], _, by omega, rfl, by go_num, by simp, O4.out, by rw [← RS3.out, NX.out], B4.out⟩, by simp [intOf]; omega⟩
          · go_wp2_with (at_builtin; refine app_new appStr rfl _ _ rfl w.heap.size _ 0 _ rfl HO3.out #[.string (strOf s)] 9 1 rfl rfl (by intro u hu; simp at hu; subst hu; rfl) (by decide) (by omega) E3.out.size ?_; intro g4 cap4 w4 hown4 hgr4 hb4 hbg4; have O4 := Lib.hid hown4; have B4 := Lib.hid (Below.trans E3.out hb4); clear hown4 hgr4 hb4 hbg4)
            refine ⟨⟨k + 1, [s], _, by omega, rfl, by go_num, by simp, O4.out, by rw [← RS3.out, NX.out], B4.out⟩, by simp [intOf]; omega⟩
        · have hn0 : out.length ≠ 0 := fun h => h0 (List.eq_nil_of_length_eq_zero h)
          obtain ⟨m, hm⟩ : ∃ m, m = out.length - 1 := ⟨_, rfl⟩
          have hml : m < out.length := by omega
          have w1 : IntKind.i64.wrap ((out.length : Int) - 1) = (m : Int) := by rw [IntKind.wrap_i64]; omega
          have e0 : ((out.length : Int) == 0) = false := by rw [beq_eq_false_iff_ne]; omega
          have d2 : (m : Int) < (out.length : Int) := by omega
          obtain ⟨y, hy⟩ : ∃ y, y = out[m] := ⟨_, rfl⟩
          have GL := Lib.hid (show out.getLast? = some y by rw [List.getLast?_eq_getElem?, ← hm, List.getElem?_eq_getElem hml, hy])
          rcases own_form HO3.out with ⟨_, h1, _⟩ | ⟨go, co, rfl, _, _⟩
          · exact absurd h1 hn0
          have y1 := (own_isBlk HO3.out m (.string (strOf y)) (by rw [strsC, List.getElem?_map, List.getElem?_eq_getElem hml, ← hy]; rfl)).1
          have HN0 := Lib.hid hn0
          clear h0 hy hm hn0
          by_cases hys : y = s
          · have e1 : (y == s) = true := by rw [hys]; exact beq_self_eq_true _
            have NX := Lib.hid (show Sp.nxt out s = out by rw [Sp.nxt, if_pos (by rw [GL.out, hys])])
            clear hys
            go_wp2
            refine ⟨⟨k + 1, out, _, by omega, rfl, by go_num, by omega, HO3.out, by rw [← RS3.out, NX.out], E3.out⟩, by simp [intOf]; omega⟩
          · have e1 : (y == s) = false := by rw [beq_eq_false_iff_ne]; exact hys
            have NX := Lib.hid (show Sp.nxt out s = out ++ [s] by rw [Sp.nxt, if_neg (by rw [GL.out]; intro h; exact hys (Option.some.inj h))])
            clear hys
            go_wp2_with (at_builtin; refine app_new appStr rfl _ _ rfl w.heap.size _ out.length _ rfl HO3.out #[.string (strOf s)] 9 1 rfl rfl (by intro u hu; simp at hu; subst hu; rfl) (by decide) (by omega) E3.out.size ?_; intro g4 cap4 w4 hown4 hgr4 hb4 hbg4; have O4 := Lib.hid hown4; have B4 := Lib.hid (Below.trans E3.out hb4); clear hown4 hgr4 hb4 hbg4)
            refine ⟨⟨k + 1, out ++ [s], _, by omega, rfl, by go_num, by simp; omega, ?_, by rw [← RS3.out, NX.out], B4.out⟩, by simp [intOf]; omega⟩
            have := O4.out
            rw [List.length_append, strsC, List.map_append]
            exact this
      · have hu2 : Sp.under x.1 d = false := by simpa using hu
        have RS2 := Lib.hid (show Sp.rnames d out (l.drop (k + 1)) = Sp.rnames d [] l by rw [← RS.out, if_neg hu])
        rw [hu2]
        clear hu hu2
        go_wp2
        refine ⟨⟨k + 1, out, _, by omega, rfl, by go_num, by omega, own_ext HO.out B1.out, RS2.out, HB.out.trans B1.out⟩, by simp [intOf]; omega⟩
    · obtain rfl : k = l.length := by omega
      rw [List.drop_length] at hr
      have RG := Lib.hid (show out = Sp.rnames d [] l from hr)
      clear hr
      go_wp2
      go_ret
      rw [← RG.out]
      exact ⟨_, rfl, HO.out, HB.out⟩
theorem rnames_calls (l : List Sp.DE) (A : Option Addr) (cap : Nat) (d : Sp.Bs) (w : World) (h : EntsAt w A l) (hl : l.length ≤ 1000000) (hpl : ∀ e ∈ l, e.1.length ≤ 1000000) (hdl : d.length ≤ 1000000) :
    Calls Tryz.prog 31 #[.slice A l.length cap, .string (strOf d)] w fun e w' => ∃ B c, e = .returned (.slice B (Sp.rnames d [] l).length c) ∧ Nams w' B (Sp.rnames d [] l) ∧ Ext w w' :=
  (rnames_own l A cap d w h hl hpl hdl).mono (by
    rintro e w' ⟨v, rfl, hO, hb⟩
    obtain ⟨B, c, rfl, hc⟩ := own_read hO
    exact ⟨B, c, rfl, hc, hb⟩)
end Go.Proofs.YtmlkachfahabnaaGreatDoor
namespace Go.Proofs.YtmlkachfahabnaaGreatDoor
open Go.RowKit Go.Shelf
attribute [local go_sem] yUpon strOf_toList
namespace Sp
end Sp
end Go.Proofs.YtmlkachfahabnaaGreatDoor
namespace Go.Proofs.YtmlkachfahabnaaGreatDoor
open Go.RowKit
attribute [local go_sem] yUpon
end Go.Proofs.YtmlkachfahabnaaGreatDoor
namespace Go.Proofs.YtmlkachfahabnaaGreatDoor
open Go.RowKit Go.Shelf
attribute [local go_sem] yUpon strOf_toList
theorem appEnt : AppStat Tryz.prog 22 41 2 40 := by
  refine ⟨Tryz.underlying22, by decide, by decide, ?_⟩
  obtain ⟨i0, hi, hz0, hz1, hz2⟩ := info_parts (show (Tryz.prog.info? 41).map (fun i => (i.zero, i.size, i.bytes)) = some (some (.agg #[.string ⟨#[]⟩, .slice none 0 0]), 2, 40) by kernel_rfl)
  exact ⟨i0, _, hi, hz0, hz1, hz2, rfl⟩
theorem entsC_snoc (m : List (Option Addr × Nat × Sp.DE)) (x : Option Addr × Nat × Sp.DE) : entsC (m ++ [x]) = entsC m ++ entC x := by
  induction m with
  | nil => simp [entsC]
  | cons y r ih => rw [List.cons_append, entsC, ih, entsC, List.append_assoc]
/-- Entries that are being gathered; their versions were there before. -/
def OutAt (w wr : World) (v : Value) (out : List Sp.DE) : Prop := ∃ m : List (Option Addr × Nat × Sp.DE), m.map (·.2.2) = out ∧ wr.ownsRow w.heap.size 41 2 v out.length (entsC m) ∧ ∀ x ∈ m, Vers w x.1 x.2.2.2
theorem OutAt.ext {w wr w' : World} {v : Value} {out : List Sp.DE} (h : OutAt w wr v out) (e : Ext wr w') : OutAt w w' v out := by
  obtain ⟨m, h1, h2, h3⟩ := h
  exact ⟨m, h1, own_ext h2 e, h3⟩
namespace Sp
def rsetS (l : List DE) (p : Bs) (vs : List Ver) : List DE × Int := if check p ≠ 0 then ([], check p) else if leaf vs ≠ 0 then ([], leaf vs) else if 128 < (rset l p vs).length then ([], 4) else (rset l p vs, 0)
end Sp
end Go.Proofs.YtmlkachfahabnaaGreatDoor
namespace Go.Proofs.YtmlkachfahabnaaGreatDoor
open Go.RowKit Go.Shelf
attribute [local go_sem] yUpon strOf_toList
namespace Sp
def rof : List DE → List DE → List DE × Int
  | m, [] => (m, 0)
  | m, e :: r => if (rsetS m e.1 e.2).2 ≠ 0 then ([], (rsetS m e.1 e.2).2) else rof (rsetS m e.1 e.2).1 r
theorem rgo_mem (p : Bs) (vs : List Ver) : ∀ (l : List DE) (b : Bool), ∀ e ∈ rgo p vs b l, e = (p, vs) ∨ e ∈ l
  | [], b, e, h => by
    rw [rgo] at h
    split at h
    · cases h
    · exact .inl (List.mem_singleton.1 h)
  | x :: r, b, e, h => by
    rw [rgo] at h
    rcases List.mem_append.1 h with h | h
    · split at h
      · exact .inl (List.mem_singleton.1 h)
      · cases h
    · rcases List.mem_append.1 h with h | h
      · split at h
        · cases h
        · rw [List.mem_singleton.1 h]; exact .inr (List.mem_cons_self ..)
      · rcases rgo_mem p vs r _ e h with h | h
        · exact .inl h
        · exact .inr (List.mem_cons_of_mem _ h)
/-- Entries that the document has gathered. -/
def GoodM (m : List DE) : Prop := Paths m ∧ m.length ≤ 128
theorem rsetS_ok {m : List DE} {p : Bs} {vs : List Ver} (h : (rsetS m p vs).2 = 0) : check p = 0 ∧ leaf vs = 0 ∧ (rsetS m p vs).1 = rset m p vs ∧ (rset m p vs).length ≤ 128 := by
  unfold rsetS at h ⊢
  by_cases h1 : check p = 0
  · rw [if_neg (by simpa using h1)] at h ⊢
    by_cases h2 : leaf vs = 0
    · rw [if_neg (by simpa using h2)] at h ⊢
      by_cases h3 : 128 < (rset m p vs).length
      · rw [if_pos h3] at h; exact absurd h (by decide)
      · rw [if_neg h3]; exact ⟨h1, h2, rfl, by omega⟩
    · rw [if_pos h2] at h; exact absurd h h2
  · rw [if_pos h1] at h; exact absurd h h1
theorem rsetS_good {m : List DE} {p : Bs} {vs : List Ver} (hm : GoodM m) (h : (rsetS m p vs).2 = 0) : GoodM (rsetS m p vs).1 := by
  obtain ⟨h1, _, h3, h4⟩ := rsetS_ok h
  rw [h3]
  refine ⟨fun e he => ?_, h4⟩
  rcases rgo_mem p vs m _ e he with rfl | he
  · exact h1
  · exact hm.1 e he
theorem goodM_nil : GoodM [] := ⟨(fun e h => by cases h), Nat.zero_le _⟩
theorem rof_good : ∀ (l m : List DE), GoodM m → GoodM (rof m l).1
  | [], m, h => h
  | e :: r, m, h => by
    rw [rof]
    by_cases hc : (rsetS m e.1 e.2).2 = 0
    · rw [if_neg (by simpa using hc)]; exact rof_good r _ (rsetS_good h hc)
    · rw [if_pos hc]; exact goodM_nil
theorem good_len {m : List DE} (h : GoodM m) : ∀ e ∈ m, e.1.length ≤ 1000000 := fun e he => Nat.le_trans (check_parts (h.1 e he)).2.1 (by decide)
end Sp
end Go.Proofs.YtmlkachfahabnaaGreatDoor
namespace Go.Proofs.YtmlkachfahabnaaGreatDoor
open Go.RowKit
namespace Sp
theorem toP_len (m : List DE) : (toP m).length = m.length := List.length_map ..
theorem riseO {o : Option T} (h : ∀ t, o = some t → Ok t) : RiseE (entriesO o) := by
  cases o with
  | none => exact List.Pairwise.nil
  | some t => exact entries_rise t (h t rfl)
/-- What a leaf at a path comes to, in the tree and in the document's list. -/
theorem set_both {o : Option T} {m : List DE} (he : toP m = entriesO o) (ho : GoodO o) (p : Bs) (l : List Ver) :
    (rsetS m p l).2 = setCode o p l ∧ (setCode o p l = 0 → toP (rsetS m p l).1 = entriesO (withO o (split p) l)) := by
  have e1 : toP (rset m p l) = entriesO (withO o (split p) l) := by
    rw [rgo_setE p l m (by rw [he]; exact riseO ho.1), he, with_entries _ _ _ ho.1]
  have e2 : (rset m p l).length = (entriesO (withO o (split p) l)).length := by rw [← e1, toP_len]
  by_cases h1 : check p = 0
  · by_cases h2 : leaf l = 0
    · by_cases h3 : 128 < (entriesO (withO o (split p) l)).length
      · have a1 : rsetS m p l = ([], 4) := by unfold rsetS; rw [if_neg (by simpa using h1), if_neg (by simpa using h2), if_pos (by rw [e2]; exact h3)]
        have a2 : setCode o p l = 4 := by unfold setCode; rw [if_neg (by simpa using h1), if_neg (by simpa using h2), if_pos h3]
        rw [a1, a2]; exact ⟨rfl, fun h => absurd h (by decide)⟩
      · have a1 : rsetS m p l = (rset m p l, 0) := by unfold rsetS; rw [if_neg (by simpa using h1), if_neg (by simpa using h2), if_neg (by rw [e2]; exact h3)]
        have a2 : setCode o p l = 0 := by unfold setCode; rw [if_neg (by simpa using h1), if_neg (by simpa using h2), if_neg h3]
        rw [a1, a2]; exact ⟨rfl, fun _ => e1⟩
    · have a1 : rsetS m p l = ([], leaf l) := by unfold rsetS; rw [if_neg (by simpa using h1), if_pos h2]
      have a2 : setCode o p l = leaf l := by unfold setCode; rw [if_neg (by simpa using h1), if_pos h2]
      rw [a1, a2]; exact ⟨rfl, fun h => absurd h h2⟩
  · have a1 : rsetS m p l = ([], check p) := by unfold rsetS; rw [if_pos h1]
    have a2 : setCode o p l = check p := by unfold setCode; rw [if_pos h1]
    rw [a1, a2]; exact ⟨rfl, fun h => absurd h h1⟩
theorem of_both : ∀ (l : List DE) (o : Option T) (m : List DE), toP m = entriesO o → GoodO o → (rof m l).2 = (ofT o l).2 ∧ toP (rof m l).1 = entriesO (ofT o l).1
  | [], o, m, he, _ => ⟨rfl, he⟩
  | e :: r, o, m, he, ho => by
    obtain ⟨s1, s2⟩ := set_both he ho e.1 e.2
    rw [rof, ofT, s1]
    by_cases hc : setCode o e.1 e.2 = 0
    · rw [if_neg (by simpa using hc), if_neg (by simpa using hc)]
      exact of_both r _ _ (s2 hc) (setCode_good hc ho)
    · rw [if_pos hc, if_pos hc]; exact ⟨rfl, rfl⟩
theorem entries_getD (o : Option T) : entries (o.getD .nil) = entriesO o := by
  cases o with
  | none => rfl
  | some t => rfl
theorem check_of_parts {d : Bs} (h : parts d ≠ []) : check d = 0 := by
  have h51 : ¬ 51 < d.length := fun hh => h (by unfold parts; rw [if_pos hh])
  unfold check
  rw [if_neg h51, if_neg (fun hh => h (List.eq_nil_of_length_eq_zero hh))]
end Sp
end Go.Proofs.YtmlkachfahabnaaGreatDoor
namespace Go.Proofs.YtmlkachfahabnaaGreatDoor
open Go.RowKit
namespace Sp
theorem subs_snoc : ∀ (d : List Bs) (E : List PE) (n : Bs), subs E (d ++ [n]) = sub1 (subs E d) n
  | [], _, _ => rfl
  | _ :: d, E, n => subs_snoc d (sub1 E _) n
/-- The kid of a name that stands there. -/
theorem kid_at : ∀ (k : List (Bs × T)) (i : Nat) (h : i < k.length), Rise k → kid k (k[i]).1 = some (k[i]).2
  | (m, s) :: r, 0, _, _ => by rw [kid, List.getElem_cons_zero, if_pos rfl]
  | (m, s) :: r, i + 1, h, hr => by
    obtain ⟨h1, h2⟩ := List.pairwise_cons.1 hr
    have hi : i < r.length := by simpa using h
    have hne : ¬ m = (r[i]).1 := by
      intro e
      have := h1 (r[i]).1 (List.mem_map_of_mem (List.getElem_mem hi))
      rw [← e, less_irr] at this
      cases this
    rw [List.getElem_cons_succ, kid, if_neg hne]
    exact kid_at r i hi h2
/-- No slash is in a name. -/
theorem name_slash {n : Bs} (h : name n = true) : ∀ c ∈ n, c ≠ 47 := by
  intro c hc e
  subst e
  unfold name at h
  simp only [Bool.and_eq_true] at h
  have := List.all_eq_true.1 h.2 _ hc
  exact absurd this (by decide)
theorem split_plain : ∀ (s : Bs), (∀ c ∈ s, c ≠ 47) → split s = [s]
  | [], _ => rfl
  | c :: r, h => by
    have ih := split_plain r fun x hx => h x (List.mem_cons_of_mem _ hx)
    rw [split, if_neg (h c (List.mem_cons_self ..)), ih]
theorem split_cat : ∀ (s : Bs) (r : Bs), (∀ c ∈ s, c ≠ 47) → split (s ++ 47 :: r) = s :: split r
  | [], r, _ => by rw [List.nil_append, split, if_pos rfl]
  | c :: s, r, h => by
    have ih := split_cat s r fun x hx => h x (List.mem_cons_of_mem _ hx)
    rw [List.cons_append, split, if_neg (h c (List.mem_cons_self ..)), ih]
theorem split_join : ∀ (a : List Bs), a ≠ [] → (∀ n ∈ a, ∀ c ∈ n, c ≠ 47) → split (joinP a) = a
  | [], h, _ => absurd rfl h
  | [s], _, hn => by rw [joinP]; exact split_plain s (hn s (List.mem_cons_self ..))
  | s :: b :: r, _, hn => by
    rw [joinP, split_cat s _ (hn s (List.mem_cons_self ..)), split_join (b :: r) (by simp) fun n h => hn n (List.mem_cons_of_mem _ h)]
theorem join_len : ∀ (a q : List Bs), a ≠ [] → (joinP a).length ≤ (joinP (a ++ q)).length
  | [], _, h => absurd rfl h
  | [s], [], _ => Nat.le_refl _
  | [s], b :: q, _ => by
    show s.length ≤ (joinP (s :: b :: q)).length
    rw [joinP]; simp
  | s :: b :: r, q, _ => by
    have := join_len (b :: r) q (by simp)
    rw [List.cons_append, List.cons_append, joinP, joinP]
    rw [List.cons_append] at this
    simp; omega
/-- What stands ahead in a path is a path. -/
theorem check_prefix {p : Bs} {a q : List Bs} (hp : check p = 0) (h : split p = a ++ q) (ha : a ≠ []) : check (joinP a) = 0 ∧ parts (joinP a) = a := by
  obtain ⟨_, h51, h4, hall⟩ := check_parts hp
  have hn : ∀ n ∈ a, name n = true := fun n hn => List.all_eq_true.1 hall n (by rw [h]; exact List.mem_append_left _ hn)
  have hs := split_join a ha fun n hnn => name_slash (hn n hnn)
  have hl : (joinP a).length ≤ 51 := by
    have h1 := join_len a q ha
    rw [← h, join_split] at h1
    omega
  have hpa : parts (joinP a) = a := by
    unfold parts
    rw [if_neg (by omega), hs, if_neg (by rw [h, List.length_append] at h4; omega), if_pos (List.all_eq_true.2 hn)]
  refine ⟨?_, hpa⟩
  exact check_of_parts (by rw [hpa]; exact ha)
theorem down_join : ∀ (a : List Bs) (n : Bs), joinP (a ++ [n]) = if a = [] then n else joinP a ++ 47 :: n
  | [], n => rfl
  | [s], n => rfl
  | s :: b :: r, n => by
    have ih := down_join (b :: r) n
    rw [if_neg (by simp)] at ih ⊢
    rw [List.cons_append, List.cons_append, joinP, ← List.cons_append, ih, joinP]
    simp
theorem dir_join {d : Bs} (h : Dir d) : d = joinP (parts d) := by
  rcases h with rfl | h
  · rw [parts_empty]; rfl
  · rw [(check_parts h).1, join_split]
theorem down_is {d : Bs} (h : Dir d) (n : Bs) : down d n = joinP (parts d ++ [n]) := by
  rw [down_join, ← dir_join h]
  unfold down
  rcases h with rfl | h
  · rw [if_pos rfl, if_pos parts_empty]
  · have h1 : d ≠ [] := by rintro rfl; exact check_nil h
    have h2 : parts d ≠ [] := by rw [(check_parts h).1]; exact split_ne d
    rw [if_neg h1, if_neg h2]
/-- A kid's directory, in the document's list. -/
theorem kid_dir {m : List DE} (hm : GoodM m) {d : Bs} (hd : Dir d) {s : T} (hs : Ok s) (he : subs (toP m) (parts d) = entries s) (i : Nat) (h : i < s.kids.length) :
    Dir (down d (s.kids[i]).1) ∧ parts (down d (s.kids[i]).1) = parts d ++ [(s.kids[i]).1] ∧ subs (toP m) (parts (down d (s.kids[i]).1)) = entries (s.kids[i]).2 ∧ Ok (s.kids[i]).2 := by
  cases s with
  | mk leaf k =>
    obtain ⟨_, hr, hk⟩ := hs
    change i < k.length at h
    show Dir (down d (k[i]).1) ∧ parts (down d (k[i]).1) = parts d ++ [(k[i]).1] ∧ subs (toP m) (parts (down d (k[i]).1)) = entries (k[i]).2 ∧ Ok (k[i]).2
    have hka := kid_at k i h hr
    have e1 : subs (toP m) (parts d ++ [(k[i]).1]) = entries (k[i]).2 := by
      rw [subs_snoc, he, sub1_entries _ leaf k hr, hka]; rfl
    have hne := kid_ne k _ _ hk hka
    have hok := kid_ok k _ _ hk hka
    rw [← e1] at hne
    obtain ⟨e, hmem⟩ := List.exists_mem_of_ne_nil _ hne
    rw [subs_strip] at hmem
    obtain ⟨e0, h0, h1⟩ := List.mem_filterMap.1 hmem
    obtain ⟨e00, h00, rfl⟩ := List.mem_map.1 h0
    cases hst : stripP (parts d ++ [(k[i]).1]) (split e00.1) with
    | none => rw [hst] at h1; cases h1
    | some q =>
      have hsp := (stripP_some _ _ _).1 hst
      obtain ⟨c1, c2⟩ := check_prefix (hm.1 e00 h00) hsp (by simp)
      rw [← down_is hd] at c1 c2
      exact ⟨.inr c1, c2, by rw [c2]; exact e1, hok⟩
end Sp
end Go.Proofs.YtmlkachfahabnaaGreatDoor
