/- Walks: pins: a tree is put. Walks: pins: Put, Find, Len. Walks: pins: Find, Len; what none answers. Walks: one of a few trees; the examples of chapter 28; what none answers. -/
import Derived.Test.YtedjiaenodechaaGreatDoorPP43
namespace Go.Proofs.YtedjiaenodechaaGreatDoor
open Go.RowKit Go.Shelf
attribute [local go_sem] yUpon strOf_toList
theorem InnerAt.apart {w w' : World} {g0 : Nat} {t0 : TypeId} {zs : Array Value} (e : Only g0 w w') (hx0 : isBlk w g0 t0 zs) (hs : ∀ z ∈ zs.toList, isSl z = true) (hn : t0 ≠ 107) {g : Nat} {t : Sp.T} (h : InnerAt w g t) : InnerAt w' g t := by
  induction h with
  | mk g t A B C c c' c'' gs hx hV hN hl hC hK ih =>
    refine .mk g t A B C c c' c'' gs (e.blk hx (fun h => ?_)) (hV.apart e hx0 hs) (Cells.apart hN e hx0 hs ?_) hl (Cells.apart hC e hx0 hs ?_) ih
    · rw [h] at hx
      rw [isBlk, show w.heap[g0]? = _ from hx0] at hx
      injection hx with hx
      injection hx with _ h5
      exact hn h5
    · intro u hu
      rw [strsC, List.getElem?_map] at hu
      cases hq : (t.kids.map (·.1))[0]? with
      | none => rw [hq] at hu; cases hu
      | some b => rw [hq] at hu; cases hu; rfl
    · intro u hu
      rw [ptrsC, List.getElem?_map] at hu
      cases hq : gs[0]? with
      | none => rw [hq] at hu; cases hu
      | some b => rw [hq] at hu; cases hu; rfl
theorem TreeAt.apart {w w' : World} {g0 : Nat} {t0 : TypeId} {zs : Array Value} (e : Only g0 w w') (hx0 : isBlk w g0 t0 zs) (hs : ∀ z ∈ zs.toList, isSl z = true) (hn : t0 ≠ 107) (hn2 : t0 ≠ 88) {v : Value} {o : Option Sp.T} (h : TreeAt w v o) : TreeAt w' v o := by
  rcases h with h | ⟨g, p, h1, h2, h3⟩
  · exact .inl h
  · refine .inr ⟨g, p, h1, e.blk h2 (fun h => ?_), ?_⟩
    · rw [h] at h2
      rw [isBlk, show w.heap[g0]? = _ from hx0] at h2
      injection h2 with h2
      injection h2 with _ h5
      exact hn2 h5
    · rcases h3 with h3 | ⟨g1, t, h4, h5, h6⟩
      · exact .inl h3
      · exact .inr ⟨g1, t, h4, h5, h6.apart e hx0 hs hn⟩
/-- Pins in memory. -/
def PinsAt (g : Nat) (w : World) (ps : List Pin) : Prop := ∃ v, isBlk w g 62 #[v] ∧ w.ownsRow 0 101 2 v ps.length (pinsC ps) ∧ ∀ x ∈ ps, TreeAt w (.pointer x.1) x.2.1 ∧ Tm x.2.2
theorem row_sl {w : World} {B n : Nat} {e : TypeId} {size : Nat} {v : Value} {xs : List Value} (h : w.ownsRow B e size v n xs) : ∀ z ∈ (#[v] : Array Value).toList, isSl z = true := by
  intro z hz
  obtain rfl := List.mem_singleton.1 hz
  obtain ⟨A, c, rfl, _⟩ := own_read h
  rfl
/-- What was a tree before pins changed is one still. -/
theorem PinsAt.tree {g : Nat} {w w' : World} {ps : List Pin} (h : PinsAt g w ps) (e : Only g w w') {v : Value} {o : Option Sp.T} (ht : TreeAt w v o) : TreeAt w' v o := by
  obtain ⟨u, h1, h2, _⟩ := h
  exact ht.apart e h1 (row_sl h2) (by decide) (by decide)
def clampS (n : Int) : Int := max 0 (min n 1099511627776)
theorem clamp_tm (n : Int) : Tm (clampS n) := by unfold clampS Tm; omega
theorem keys_only {g k t : Nat} {cs : Array Value} {w w' : World} (h : KeysAt w k) (e : Only g w w') (hx : isBlk w g t cs) (hs : ∀ z ∈ cs.toList, isSl z = true) : KeysAt w' k := fun i hi => by
  have h1 := h i hi
  have hne : k ≠ g := fun h2 => by
    rw [h2, hx.cell i] at h1
    have := hs _ (Array.mem_toList_iff.2 (Array.mem_of_getElem? h1))
    cases this
  have := e.block k (cell_lt h1) hne
  rw [World.cell?_of_block (a := ⟨k, i, none⟩) this]
  exact h1
theorem max_only {g t : Nat} {cs : Array Value} {w w' : World} (h : MaxAt w) (e : Only g w w') (hx : isBlk w g t cs) (hs : ∀ z ∈ cs.toList, isSl z = true) : MaxAt w' := by
  obtain ⟨m, h1⟩ := h
  have hne : 1 ≠ g := fun h2 => by
    rw [h2, hx.cell 0] at h1
    have := hs _ (Array.mem_toList_iff.2 (Array.mem_of_getElem? h1))
    cases this
  have := e.block _ (cell_lt h1) hne
  exact ⟨m, by rw [World.cell?_of_block (a := ⟨_, 0, none⟩) this]; exact h1⟩
theorem oldS_len (n : Int) (ps : List Pin) : (oldS n ps).length ≤ ps.length := List.length_filter_le _ _
theorem useP_len (d : Sp.Bs) (n : Int) (ps : List Pin) : (useP d n ps).length = ps.length := by
  unfold useP
  split
  · rw [List.length_modify]
  · rfl
theorem useP_mem {d : Sp.Bs} {n : Int} {ps : List Pin} {x : Pin} (h : x ∈ useP d n ps) : ∃ y ∈ ps, x = y ∨ x = touch n y := by
  unfold useP at h
  split at h
  · obtain ⟨i, hi, rfl⟩ := List.getElem_of_mem h
    rw [List.length_modify] at hi
    rw [List.getElem_modify]
    split
    · exact ⟨ps[i], List.getElem_mem hi, .inr rfl⟩
    · exact ⟨ps[i], List.getElem_mem hi, .inl rfl⟩
  · exact ⟨x, h, .inl rfl⟩
theorem selN_mem {p : Nat → Bool} {l : List Pin} {k : Nat} {x : Pin} (h : x ∈ selN p l k) : x ∈ l := by
  unfold selN at h
  obtain ⟨i, _, h2⟩ := List.mem_filterMap.1 h
  split at h2
  · exact List.mem_of_getElem? h2
  · cases h2
theorem roomS_mem {ps : List Pin} {x : Pin} (h : x ∈ roomS ps) : x ∈ ps := by
  unfold roomS at h
  split at h
  · exact h
  · exact selN_mem h
def putS (x : Option Addr × Option Sp.T) (n : Int) (ps : List Pin) : List Pin :=
  match useK (dgP (x.1, x.2, n)) (oldS n ps) with
  | some _ => useP (dgP (x.1, x.2, n)) n (oldS n ps)
  | none => roomS (oldS n ps) ++ [(x.1, x.2, n)]
end Go.Proofs.YtedjiaenodechaaGreatDoor
namespace Go.Proofs.YtedjiaenodechaaGreatDoor
open Go.RowKit Go.Shelf
attribute [local go_sem] yUpon strOf_toList
theorem only_chain {g : Nat} {a b c : World} (h : Only g a b) (e : Below a.heap.size b c) : Only g a c :=
  ⟨e.os.trans h.os, e.tape.trans h.tape, e.output.trans h.output, Nat.le_trans h.size e.size, fun k hk hn => (e.block k hk).trans (h.block k hk hn)⟩
theorem only_narrow {g : Nat} {a b c : World} (h : Only g a b) (e : Only g b c) : Only g a c := h.trans e
theorem oldS_tm {n : Int} {ps : List Pin} {x : Pin} (h : x ∈ oldS n ps) : x ∈ ps := (List.mem_filter.1 h).1
set_option maxRecDepth 100000 in
set_option maxHeartbeats 4000000 in
theorem put_calls (g : Nat) (ps : List Pin) (a : Option Addr) (o : Option Sp.T) (now : Int) (w : World) (hP : PinsAt g w ps) (hl : ps.length ≤ 900) (ht : TreeAt w (.pointer a) o) (K : KeysAt w 2) :
    Calls Tryz.prog 17 #[.pointer (some ⟨g, 0, none⟩), .pointer a, .int .i64 now] w fun e w' => e = .returned (.tuple #[]) ∧ PinsAt g w' (putS (a, o) (clampS now) ps) ∧ Only g w w' := by
  have PT := Lib.hid fun (w' : World) (e : Only g w w') (v : Value) (o : Option Sp.T) (h : TreeAt w v o) => hP.tree e h
  obtain ⟨v, hx, hO, hX⟩ := hP
  have HX := Lib.hid hX
  have GL := Lib.hid hx.lt
  have SL := Lib.hid (row_sl hO)
  have HT := Lib.hid ht
  have KK := Lib.hid fun (w' : World) (e : Only g w w') => keys_only K e hx (row_sl hO)
  obtain ⟨n, hn⟩ : ∃ n, n = clampS now := ⟨_, rfl⟩
  have TN := Lib.hid (show Tm n by rw [hn]; exact clamp_tm now)
  have CC := Lib.hid (show ∀ w, Calls Tryz.prog 48 #[.int .i64 now] w fun e w' => e = .returned (.int .i64 n) ∧ w = w' from fun w => by rw [hn]; exact clamp_calls now w)
  rw [← hn]
  obtain ⟨A, cap, rfl, _⟩ := own_read hO
  have OC := Lib.hid (old_calls g n ps _ w hx hO (by omega) TN.out (fun x h => (hX x h).2))
  clear hx hO hX ht K hn
  go_enter Tryz.func17, Tryz.ntmps17
  go_wp2_with fail
  refine (CC.out w).mono ?_
  rintro e w1 ⟨rfl, rfl⟩
  go_wp2_with fail
  refine OC.out.mono ?_
  rintro e w1 ⟨rfl, v1, hx1, hO1, hon1⟩
  obtain ⟨q, hq⟩ : ∃ q, q = oldS n ps := ⟨_, rfl⟩
  have QM := Lib.hid (show ∀ x ∈ q, x ∈ ps from fun x h => oldS_tm (by rw [← hq]; exact h))
  have QL := Lib.hid (show q.length ≤ 900 by rw [hq]; exact Nat.le_trans (oldS_len n ps) hl)
  have PS := Lib.hid (show putS (a, o) n ps = (match useK (dgP (a, o, n)) q with | some _ => useP (dgP (a, o, n)) n q | none => roomS q ++ [(a, o, n)]) by rw [hq]; rfl)
  rw [← hq] at hO1
  have X1 := Lib.hid hx1
  have O1 := Lib.hid hO1
  have N1 := Lib.hid hon1
  have T1 := Lib.hid (PT.out w1 hon1 _ _ HT.out)
  obtain ⟨d, hd⟩ : ∃ d, d = dgP (a, o, n) := ⟨_, rfl⟩
  have DL := Lib.hid (show d.length = 32 by rw [hd]; exact Sp.nsum_len _)
  have TR := Lib.hid (show ∀ W, Ext w1 W → Calls Tryz.prog 24 #[.pointer a] W fun e w' => e = .returned (digV d) ∧ Ext W w' from fun W e => by rw [hd]; exact troot_calls o (.pointer a) W (T1.out.ext e) ((KK.out w1 hon1).ext e))
  rw [← hd] at PS
  clear hx1 hO1 hon1 hq hd
  go_wp2_with fail
  refine (TR.out w1 (Ext.refl _)).mono ?_
  rintro e w2 ⟨rfl, hb2⟩
  have E2 := Lib.hid hb2
  have N2 := Lib.hid (N1.out.trans (Only.of_below g hb2))
  have UC := Lib.hid (use_calls g w.heap.size d DL.out n q v1 w2 (X1.out.below hb2) (own_ext O1.out hb2) (Nat.le_trans N1.out.size hb2.size) (by have := QL.out; omega) (fun x h => PT.out w2 (N1.out.trans (Only.of_below g hb2)) _ _ (HX.out x (QM.out x h)).1) (KK.out w2 (N1.out.trans (Only.of_below g hb2))))
  clear hb2
  go_wp2_with fail
  refine UC.out.mono ?_
  rintro e w3 ⟨rfl, hO3, hb3⟩
  have X3 := Lib.hid (show isBlk w3 g 62 #[v1] from (hb3.block g GL.out).trans (X1.out.below E2.out))
  have O3 := Lib.hid hO3
  have N3 := Lib.hid (only_chain N2.out hb3)
  have S3 := Lib.hid (Nat.le_trans N2.out.size hb3.size)
  clear hO3 hb3
  cases hu : useK d q with
  | some k =>
    have UI := Lib.hid (show useI d q = (k : Int) by rw [useI, hu])
    have PS2 := Lib.hid (show putS (a, o) n ps = useP d n q by rw [PS.out, hu])
    rw [UI.out]
    have e1 : ¬ (k : Int) < 0 := by omega
    clear hu
    go_wp2_with fail
    go_end0
    rw [PS2.out]
    refine ⟨rfl, ⟨v1, X3.out, by rw [useP_len]; exact own_lowT O3.out (Nat.zero_le _), fun x h => ?_⟩, N3.out⟩
    obtain ⟨y, hy, h2⟩ := useP_mem h
    have := HX.out y (QM.out y hy)
    rcases h2 with rfl | rfl
    · exact ⟨PT.out w3 N3.out _ _ this.1, this.2⟩
    · exact ⟨PT.out w3 N3.out _ _ this.1, TN.out⟩
  | none =>
    have UI := Lib.hid (show useI d q = -1 by rw [useI, hu])
    have PS2 := Lib.hid (show putS (a, o) n ps = roomS q ++ [(a, o, n)] by rw [PS.out, hu])
    have UP := Lib.hid (show useP d n q = q by rw [useP, hu])
    rw [UI.out]
    have RC := Lib.hid (room_calls g w.heap.size q v1 w3 X3.out (by have := O3.out; rwa [UP.out] at this) S3.out (by have := QL.out; omega))
    clear hu
    go_wp2_with fail
    refine RC.out.mono ?_
    rintro e w4 ⟨rfl, v4, hx4, hO4, hon4⟩
    obtain ⟨r, hr⟩ : ∃ r, r = roomS q := ⟨_, rfl⟩
    have RM := Lib.hid (show ∀ x ∈ r, x ∈ ps from fun x h => QM.out x (roomS_mem (by rw [← hr]; exact h)))
    have RL := Lib.hid (show r.length ≤ 900 from by
      have h1 : r.length ≤ q.length := by
        rw [hr]
        unfold roomS
        split
        · exact Nat.le_refl _
        · exact selN_len _ _ _
      exact Nat.le_trans h1 QL.out)
    rw [← hr] at hO4 PS2
    have X4 := Lib.hid hx4
    have O4 := Lib.hid hO4
    have N4 := Lib.hid (N3.out.trans hon4)
    have z0 := (hx4.cell 0).trans rfl
    have rl := RL.out
    obtain ⟨A4, c4, rfl, _⟩ := own_read hO4
    clear hx4 hO4 hon4 hr
    go_wp2_with (at_builtin; refine app_new appPin rfl _ _ rfl w.heap.size _ r.length _ rfl O4.out #[.pointer a, .int .i64 n] 101 1 rfl rfl (by intro u hu; simp at hu; rcases hu with rfl | rfl <;> rfl) (by decide) (by omega) (N4.out.size) ?_; intro g6 cap6 w6 hown6 hgr6 hb6 hbg6; have O6 := Lib.hid hown6; have B6 := Lib.hid hb6; have X6 := Lib.hid (show isBlk w6 g 62 #[.slice A4 r.length c4] from (hb6.block g GL.out).trans X4.out); have k0 := X6.out.frozen 0; have k1 := (X6.out.cell 0).trans rfl; clear hown6 hgr6 hb6 hbg6)
    go_end0
    have ON := Lib.hid ((only_chain N4.out B6.out).trans (Only.set g 0 (.slice (some ⟨g6, 0, none⟩) (r.length + 1) cap6) w6))
    rw [PS2.out]
    refine ⟨rfl, ⟨_, X6.out.put 0 _ rfl, ?_, fun x h => ?_⟩, ON.out⟩
    · rw [pinsC_snoc, List.length_append]
      refine own_far (own_lowT O6.out (Nat.zero_le _)) (fun e => ?_) _
      have e2 : g6 = g := Option.some.inj e
      have h1 := (own_off O6.out) _ rfl
      have h2 := GL.out
      simp only at h1
      omega
    · rcases List.mem_append.1 h with h | h
      · have := HX.out x (RM.out x h)
        exact ⟨PT.out _ ON.out _ _ this.1, this.2⟩
      · obtain rfl := List.mem_singleton.1 h
        exact ⟨PT.out _ ON.out _ _ HT.out, TN.out⟩
end Go.Proofs.YtedjiaenodechaaGreatDoor
namespace Go.Proofs.YtedjiaenodechaaGreatDoor
open Go.RowKit Go.Shelf
attribute [local go_sem] yUpon strOf_toList
theorem putnil_calls (a : Option Addr) (now : Int) (w : World) : Calls Tryz.prog 17 #[.pointer none, .pointer a, .int .i64 now] w fun e w' => e = .returned (.tuple #[]) ∧ w = w' := by
  go_enter Tryz.func17, Tryz.ntmps17
  go_wp2_with fail
  refine bodyPost_ret (results_none rfl _ _ _) rfl ?_
  exact ⟨rfl, rfl⟩
theorem lennil_calls (now : Int) (w : World) : Calls Tryz.prog 20 #[.pointer none, .int .i64 now] w fun e w' => e = .returned (.int .i64 0) ∧ w = w' := by
  go_enter Tryz.func20, Tryz.ntmps20
  go_wp2_with fail
  go_ret
  exact ⟨rfl, rfl⟩
theorem findnil_calls (d : Sp.Bs) (now : Int) (w : World) : Calls Tryz.prog 19 #[.pointer none, digV d, .int .i64 now] w fun e w' => e = .returned (.tuple #[.pointer none, .bool false]) ∧ Ext w w' := by
  have tok1 : True := trivial
  go_enter Tryz.func19, Tryz.ntmps19
  go_wp2_with (have _t := tok1; ((with_reducible refine at_box (t := 41) rfl ?_); refine box_new rfl (cs := digC d) (t := 41) (by first | (go_simp; done) | (go_simp; rfl)) ?_; intro g2 w2 hg2 hx2 hb2; have B2 := Lib.hid (show Ext w w2 from hb2); clear tok1 _t hx2 hb2 hg2))
  go_ret2
  exact ⟨rfl, B2.out⟩
set_option maxRecDepth 100000 in
set_option maxHeartbeats 4000000 in
theorem plen_calls (g : Nat) (ps : List Pin) (now : Int) (w : World) (hP : PinsAt g w ps) (hl : ps.length ≤ 900) :
    Calls Tryz.prog 20 #[.pointer (some ⟨g, 0, none⟩), .int .i64 now] w fun e w' => e = .returned (.int .i64 (oldS (clampS now) ps).length) ∧ PinsAt g w' (oldS (clampS now) ps) ∧ Only g w w' := by
  have PT := Lib.hid fun (w' : World) (e : Only g w w') (v : Value) (o : Option Sp.T) (h : TreeAt w v o) => hP.tree e h
  obtain ⟨v, hx, hO, hX⟩ := hP
  have HX := Lib.hid hX
  obtain ⟨n, hn⟩ : ∃ n, n = clampS now := ⟨_, rfl⟩
  have TN := Lib.hid (show Tm n by rw [hn]; exact clamp_tm now)
  have CC := Lib.hid (show ∀ w, Calls Tryz.prog 48 #[.int .i64 now] w fun e w' => e = .returned (.int .i64 n) ∧ w = w' from fun w => by rw [hn]; exact clamp_calls now w)
  rw [← hn]
  obtain ⟨A, cap, rfl, _⟩ := own_read hO
  have OC := Lib.hid (old_calls g n ps _ w hx hO (by omega) TN.out (fun x h => (hX x h).2))
  clear hx hO hX hn
  go_enter Tryz.func20, Tryz.ntmps20
  go_wp2_with fail
  refine (CC.out w).mono ?_
  rintro e w1 ⟨rfl, rfl⟩
  go_wp2_with fail
  refine OC.out.mono ?_
  rintro e w1 ⟨rfl, v1, hx1, hO1, hon1⟩
  obtain ⟨A1, c1, rfl, _⟩ := own_read hO1
  have z0 := (hx1.cell 0).trans rfl
  have PA := Lib.hid (show PinsAt g w1 (oldS n ps) from ⟨_, hx1, own_lowT hO1 (Nat.zero_le _), fun x h => ⟨PT.out w1 hon1 _ _ (HX.out x (oldS_tm h)).1, (HX.out x (oldS_tm h)).2⟩⟩)
  have N1 := Lib.hid hon1
  clear hx1 hO1 hon1
  go_wp2
  go_ret
  exact ⟨rfl, PA.out, N1.out⟩
/-- What is found: which, and what is left. -/
def findP (d : Sp.Bs) (n : Int) (ps : List Pin) : List Pin := useP d n (oldS n ps)
def foundV (d : Sp.Bs) (n : Int) (ps : List Pin) : Value :=
  match useK d (oldS n ps) with
  | some k => .tuple #[.pointer (((oldS n ps)[k]?).bind (·.1)), .bool true]
  | none => .tuple #[.pointer none, .bool false]
set_option maxRecDepth 100000 in
set_option maxHeartbeats 4000000 in
theorem pfind_calls (g : Nat) (ps : List Pin) (d : Sp.Bs) (hd : d.length = 32) (now : Int) (w : World) (hP : PinsAt g w ps) (hl : ps.length ≤ 900) (K : KeysAt w 2) :
    Calls Tryz.prog 19 #[.pointer (some ⟨g, 0, none⟩), digV d, .int .i64 now] w fun e w' => e = .returned (foundV d (clampS now) ps) ∧ PinsAt g w' (findP d (clampS now) ps) ∧ Only g w w' := by
  have PT := Lib.hid fun (w' : World) (e : Only g w w') (v : Value) (o : Option Sp.T) (h : TreeAt w v o) => hP.tree e h
  obtain ⟨v, hx, hO, hX⟩ := hP
  have HX := Lib.hid hX
  have GL := Lib.hid hx.lt
  have KK := Lib.hid fun (w' : World) (e : Only g w w') => keys_only K e hx (row_sl hO)
  obtain ⟨n, hn⟩ : ∃ n, n = clampS now := ⟨_, rfl⟩
  have TN := Lib.hid (show Tm n by rw [hn]; exact clamp_tm now)
  have CC := Lib.hid (show ∀ w, Calls Tryz.prog 48 #[.int .i64 now] w fun e w' => e = .returned (.int .i64 n) ∧ w = w' from fun w => by rw [hn]; exact clamp_calls now w)
  rw [← hn]
  obtain ⟨A, cap, rfl, _⟩ := own_read hO
  have OC := Lib.hid fun (W : World) (e : Ext w W) => old_calls g n ps _ W (hx.below e) (own_ext hO e) (by omega) TN.out (fun x h => (hX x h).2)
  have DL := Lib.hid (show (d.map byteV).length = 32 by rw [List.length_map, hd])
  have DM := Lib.hid (show (d.map byteV).toArray = digC d from rfl)
  have DD := Lib.hid hd
  have tok1 : True := trivial
  have tok2 : True := trivial
  clear hx hO hX K hn hd
  go_enter Tryz.func19, Tryz.ntmps19
  go_wp2_with (have _t := tok1; ((with_reducible refine at_box (t := 41) rfl ?_); refine box_new rfl (cs := digC d) (t := 41) (by first | (go_simp; done) | (go_simp; rfl)) ?_; intro g2 w2 hg2 hx2 hb2; have X2 := Lib.hid hx2; have B2 := Lib.hid (show Ext w w2 from hb2); have GG := Lib.hid hg2; clear tok1 _t hx2 hb2 hg2))
  refine (CC.out w2).mono ?_
  rintro e w1 ⟨rfl, rfl⟩
  go_wp2_with fail
  refine (OC.out w2 B2.out).mono ?_
  rintro e w3 ⟨rfl, v3, hx3, hO3, hon3⟩
  obtain ⟨q, hq⟩ : ∃ q, q = oldS n ps := ⟨_, rfl⟩
  have QM := Lib.hid (show ∀ x ∈ q, x ∈ ps from fun x h => oldS_tm (by rw [← hq]; exact h))
  have QL := Lib.hid (show q.length ≤ 900 by rw [hq]; exact Nat.le_trans (oldS_len n ps) hl)
  have FP := Lib.hid (show findP d n ps = useP d n q by rw [hq]; rfl)
  have FV := Lib.hid (show foundV d n ps = (match useK d q with | some k => .tuple #[.pointer ((q[k]?).bind (·.1)), .bool true] | none => .tuple #[.pointer none, .bool false]) by rw [hq]; rfl)
  rw [← hq] at hO3
  have X3 := Lib.hid hx3
  have O3 := Lib.hid hO3
  have N3 := Lib.hid ((Only.of_below g B2.out).trans hon3)
  have NG := Lib.hid (show g2 ≠ g by have := GL.out; have := GG.out; omega)
  have D3 := Lib.hid (hon3.blk X2.out NG.out)
  have RG := Lib.hid (show w3.rangeAt g2 0 (d.map byteV) from fun j u hj => by
    rw [Nat.zero_add, D3.out.cell j]
    simpa [digC] using hj)
  have UC := Lib.hid (use_calls g w2.heap.size d DD.out n q v3 w3 hx3 hO3 hon3.size (by have := QL.out; omega) (fun x h => PT.out w3 N3.out _ _ (HX.out x (QM.out x h)).1) (KK.out w3 N3.out))
  clear hx3 hO3 hon3 hq
  go_wp2_with (have _t := tok2; ((with_reducible refine at_load (t := 41) rfl ?_); refine wpList_load_mid rfl _ _ rfl g2 0 rfl (d.map byteV) _ RG.out Tryz.underlying41 rfl (by rw [DL.out]; kernel_rfl) ?_; rw [DM.out]; clear tok2 _t))
  refine UC.out.mono ?_
  rintro e w4 ⟨rfl, hO4, hb4⟩
  have X4 := Lib.hid (show isBlk w4 g 62 #[v3] from (hb4.block g (Nat.lt_of_lt_of_le GL.out B2.out.size)).trans X3.out)
  have O4 := Lib.hid hO4
  have N4 := Lib.hid (show Only g w w4 from only_chain N3.out (hb4.mono B2.out.size))
  have PA := Lib.hid (show PinsAt g w4 (findP d n ps) from ⟨v3, X4.out, by rw [FP.out, useP_len]; exact own_lowT O4.out (Nat.zero_le _), fun x h => by
    rw [FP.out] at h
    obtain ⟨y, hy, h2⟩ := useP_mem h
    have := HX.out y (QM.out y hy)
    rcases h2 with rfl | rfl
    · exact ⟨PT.out w4 N4.out _ _ this.1, this.2⟩
    · exact ⟨PT.out w4 N4.out _ _ this.1, TN.out⟩⟩)
  clear hO4 hb4
  cases hu : useK d q with
  | none =>
    have UI := Lib.hid (show useI d q = -1 by rw [useI, hu])
    have FV2 := Lib.hid (show foundV d n ps = .tuple #[.pointer none, .bool false] by rw [FV.out, hu])
    rw [UI.out]
    clear hu
    go_wp2_with fail
    go_ret2
    exact ⟨by rw [FV2.out]; rfl, PA.out, N4.out⟩
  | some k =>
    have hk : k < q.length := by
      unfold useK at hu
      rw [List.findIdx?_eq_some_iff_getElem] at hu
      exact hu.1
    have UI := Lib.hid (show useI d q = (k : Int) by rw [useI, hu])
    have FV2 := Lib.hid (show foundV d n ps = .tuple #[.pointer (q[k]).1, .bool true] by rw [FV.out, hu]; simp [hk])
    have UP := Lib.hid (show useP d n q = q.modify k (touch n) by rw [useP, hu])
    have hk2 : k < (useP d n q).length := by rw [useP_len]; exact hk
    have PG := Lib.hid (show ((useP d n q)[k]).1 = (q[k]).1 by
      simp only [UP.out, List.getElem_modify, if_true]
      rfl)
    rw [UI.out]
    obtain ⟨a4, c4, e4, _⟩ := owned_form O4.out (by omega)
    subst e4
    obtain ⟨z1, _, _, _⟩ := own_isBlk O4.out (k * 2) _ (pinsC_get (useP d n q) k hk2).1
    rw [PG.out] at z1
    have z0 := (X4.out.cell 0).trans rfl
    have e1 : ¬ (k : Int) < 0 := by omega
    have b1 : (k : Int) < (q.length : Int) := by omega
    have ql := QL.out
    obtain ⟨pk, hpk⟩ : ∃ pk, pk = (q[k]).1 := ⟨_, rfl⟩
    rw [← hpk] at z1 FV2
    clear hu hpk
    go_wp2_with fail
    go_ret2
    exact ⟨by rw [FV2.out]; rfl, PA.out, N4.out⟩
end Go.Proofs.YtedjiaenodechaaGreatDoor
namespace Go.Proofs.YtedjiaenodechaaGreatDoor
open Go.RowKit Go.Shelf
attribute [local go_sem] yUpon strOf_toList
namespace Sp
/-- The version of the k-th tree. -/
def tV (k : Nat) : Ver := ⟨(0, 1 + k), [], false, []⟩
def treeK (k : Nat) : Option T := withO none (split [97]) [tV k]
/-- Which of the seven trees a number is. -/
def tN (n : Int) : Nat := ((n % 18446744073709551616) % 7).toNat
theorem tN_lt (n : Int) : tN n < 7 := by unfold tN; omega
theorem tree_code : ∀ k : Fin 7, setCode none [97] [tV k] = 0 := by decide +kernel
theorem tree_len : ∀ k : Fin 7, (entriesO (treeK k)).length = 1 := by decide +kernel
end Sp
theorem vers_one {w : World} {g : Nat} {t : TypeId} (k : Nat) (h : isBlk w g t (verC none 0 (Sp.tV k))) : Vers w (some ⟨g, 0, none⟩) [Sp.tV k] :=
  ⟨[(none, 0, Sp.tV k)], rfl, fun _ => ⟨g, 0, rfl, fun i u hi => by
    rw [Nat.zero_add, h.cell i]
    have : (verC none 0 (Sp.tV k)).toList ++ [] = (verC none 0 (Sp.tV k)).toList := List.append_nil _
    rw [versC, versC, this] at hi
    simpa using hi⟩, fun x hx => by
    obtain rfl := List.mem_singleton.1 hx
    exact ⟨Cells.nil _ _, Nat.zero_le _⟩⟩
set_option maxRecDepth 100000 in
set_option maxHeartbeats 4000000 in
theorem trees_calls (n : Int) (w : World) (hn : -9223372036854775808 ≤ n ∧ n ≤ 9223372036854775807) (K : KeysAt w 2) (M : MaxAt w) :
    Calls Tryz.prog 18 #[.int .i64 n] w fun e w' => ∃ a, e = .returned (.pointer a) ∧ TreeAt w' (.pointer a) (Sp.treeK (Sp.tN n)) ∧ Ext w w' := by
  obtain ⟨x, hx⟩ : ∃ x : Int, x = n % 18446744073709551616 := ⟨_, rfl⟩
  obtain ⟨k, hk⟩ : ∃ k, k = Sp.tN n := ⟨_, rfl⟩
  have hk7 : k < 7 := by rw [hk]; exact Sp.tN_lt n
  have u1 : IntKind.u64.wrap n = x := by rw [IntKind.wrap_u64, hx]
  have u2 : x.tmod 7 = (k : Int) := by
    rw [Int.tmod_eq_emod_of_nonneg (by omega), hk]
    unfold Sp.tN
    omega
  have u3 : IntKind.i64.wrap (k : Int) = (k : Int) := IntWalk.i64_in _ (by omega)
  have u4 : IntKind.i64.wrap (1 + (k : Int)) = 1 + (k : Int) := IntWalk.i64_in _ (by omega)
  have u5 : IntKind.u64.wrap (k : Int) = (k : Int) := by rw [IntKind.wrap_u64]; omega
  have KK := Lib.hid K
  have MM := Lib.hid M
  have CD := Lib.hid (show Sp.setCode none [97] [Sp.tV k] = 0 from Sp.tree_code ⟨k, hk7⟩)
  rw [← hk]
  have tok : True := trivial
  clear K M hk hx
  go_enter Tryz.func18, Tryz.ntmps18
  go_wp2_with (have _t := tok; (with_reducible refine at_bslice rfl ?_); refine bslice_new rfl 31 82 _ rfl appVer (by decide) (verC none 0 (Sp.tV k)) rfl rfl ?_; intro gv wv hgv hxv hbv; have XV := Lib.hid hxv; have BV := Lib.hid hbv; clear tok _t hgv hxv hbv)
  have SC := Lib.hid (set_calls none (.pointer none) [97] [Sp.tV k] (some ⟨gv, 0, none⟩) 1 wv (.inl ⟨rfl, rfl⟩) (fun t h => by cases h) (by decide) (vers_one k XV.out) (KK.out.ext BV.out) (max_kept MM.out BV.out))
  rw [CD.out] at SC
  refine SC.out.mono ?_
  rintro e w2 ⟨v2, rfl, h0, _, hb2⟩
  have T2 := Lib.hid (show TreeAt w2 v2 (Sp.treeK k) from h0 rfl)
  obtain ⟨a, rfl⟩ := tree_ptr T2.out
  have E2 := Lib.hid (BV.out.trans hb2)
  clear h0 hb2 SC
  go_wp2
  go_ret
  exact ⟨a, rfl, T2.out, E2.out⟩
end Go.Proofs.YtedjiaenodechaaGreatDoor
