/- What a tree in memory lists, and where: plain. Walks: what stands at a directory of a tree: its node, its leaf. Walks: the node of a directory of a tree. Walks: a tree's digests. -/
import Derived.Test.YteiblfcehlibpaaGreatDoorWD34
import Derived.Test.YteiblfcehlibpaaGreatDoorWD31
import Derived.Test.YteiblfcehlibpaaGreatDoorWD35
import Derived.Deep.Slices
namespace Go.Proofs.YteiblfcehlibpaaGreatDoor
open Go.RowKit Go.Shelf
/-- A leaf: where it lies; its path in parts, and the versions. -/
abbrev LE := Option Addr × Nat × Sp.PE
/-- .. below a name; below some. -/
def preL (n : Sp.Bs) (x : LE) : LE := (x.1, x.2.1, (n :: x.2.2.1, x.2.2.2))
def catL (d : List Sp.Bs) (x : LE) : LE := (x.1, x.2.1, (d ++ x.2.2.1, x.2.2.2))
theorem cat_pre (d : List Sp.Bs) (n : Sp.Bs) (x : LE) : catL d (preL n x) = catL (d ++ [n]) x := by simp [catL, preL]
theorem cat_nil (x : LE) : catL [] x = x := rfl
def hereL (A : Option Addr) (c : Nat) (t : Sp.T) : List LE := if t.leaf = [] then [] else [(A, c, ([], t.leaf))]
def belowL : List (Sp.Bs × Sp.T) → List (List LE) → List LE
  | k :: r, m :: ms => m.map (preL k.1) ++ belowL r ms
  | _, _ => []
/-- What the tree at g lists. -/
inductive ListAt (w : World) : Nat → Sp.T → List LE → Prop where
  | mk (g : Nat) (t : Sp.T) (A B C : Option Addr) (c c' c'' : Nat) (gs : List Nat) (ms : List (List LE)) (hp : PreAt w g t A B C c c' c'' gs (innerC A c B c' C c'' t)) (hm : ms.length = t.kids.length)
    (hK : ∀ i (h : i < t.kids.length), ListAt w (gs.getD i 0) (t.kids[i]).2 (ms.getD i [])) : ListAt w g t (hereL A c t ++ belowL t.kids ms)
theorem list_of {w : World} {g : Nat} {t : Sp.T} (h : InnerAt w g t) : ∃ m, ListAt w g t m := by
  induction h with
  | mk g t A B C c c' c'' gs hx hV hN hl hC hK ih =>
    obtain ⟨f, hf⟩ := Go.Deep.choose_lt (n := t.kids.length) (p := fun i (m : List LE) => ∀ (h : i < t.kids.length), ListAt w (gs.getD i 0) (t.kids[i]).2 m) (fun i hi => by
      obtain ⟨m, hm⟩ := ih i hi
      exact ⟨m, fun _ => hm⟩)
    refine ⟨_, .mk g t A B C c c' c'' gs ((List.range t.kids.length).map f) ⟨hx, innerC_size .., rfl, rfl, rfl, hV, hN, hl, hC, hK⟩ (by simp) fun i h => ?_⟩
    have := hf i h h
    simpa [List.getD_eq_getElem?_getD, h] using this
theorem below_entries : ∀ (k : List (Sp.Bs × Sp.T)) (ms : List (List LE)), ms.length = k.length → (∀ i (h : i < k.length), (ms.getD i []).map (·.2.2) = Sp.entries (k[i]).2) → (belowL k ms).map (·.2.2) = Sp.entriesL k
  | [], [], _, _ => rfl
  | (n, t) :: r, m :: ms, hl, h => by
    have h0 := h 0 (by simp)
    have ih := below_entries r ms (by simpa using hl) (fun i hi => by have := h (i + 1) (by simpa using hi); simpa using this)
    rw [belowL, Sp.entriesL, List.map_append, ih, List.map_map]
    congr 1
    simp only [List.getD_cons_zero, List.getElem_cons_zero] at h0
    rw [← h0, List.map_map]
    rfl
theorem list_entries {w : World} {g : Nat} {t : Sp.T} {m : List LE} (h : ListAt w g t m) : m.map (·.2.2) = Sp.entries t := by
  induction h with
  | mk g t A B C c c' c'' gs ms hp hm hK ih =>
    rw [List.map_append, below_entries t.kids ms hm ih]
    cases t with
    | mk leaf kids =>
      rw [Sp.entries]
      congr 1
      unfold hereL
      by_cases h : leaf = []
      · rw [if_pos h, if_pos (show (Sp.T.mk leaf kids).leaf = [] from h)]; rfl
      · rw [if_neg h, if_neg (show ¬ (Sp.T.mk leaf kids).leaf = [] from h)]; rfl
theorem mem_below : ∀ (k : List (Sp.Bs × Sp.T)) (ms : List (List LE)) (x : LE), ms.length = k.length → x ∈ belowL k ms → ∃ i, ∃ h : i < k.length, ∃ y ∈ ms.getD i [], x = preL (k[i]).1 y
  | [], [], x, _, h => by cases h
  | kt :: r, m :: ms, x, hl, h => by
    rw [belowL] at h
    rcases List.mem_append.1 h with h | h
    · obtain ⟨y, hy, rfl⟩ := List.mem_map.1 h
      exact ⟨0, by simp, y, by simpa using hy, rfl⟩
    · obtain ⟨i, hi, y, hy, rfl⟩ := mem_below r ms x (by simpa using hl) h
      exact ⟨i + 1, by simpa using hi, y, by simpa using hy, by simp⟩
theorem list_vers {w : World} {g : Nat} {t : Sp.T} {m : List LE} (h : ListAt w g t m) : ∀ x ∈ m, Vers w x.1 x.2.2.2 := by
  induction h with
  | mk g t A B C c c' c'' gs ms hp hm hK ih =>
    intro x hx
    rcases List.mem_append.1 hx with hx | hx
    · unfold hereL at hx
      split at hx
      · cases hx
      · obtain rfl := List.mem_singleton.1 hx
        exact hp.V
    · obtain ⟨i, hi, y, hy, rfl⟩ := mem_below _ _ _ hm hx
      exact ih i hi y hy
/-- Where the entries of each kid begin. -/
def offL : List (List LE) → Nat → Nat
  | m :: ms, k + 1 => m.length + offL ms k
  | _, _ => 0
theorem off_succ : ∀ (ms : List (List LE)) (k : Nat), k < ms.length → offL ms (k + 1) = offL ms k + (ms.getD k []).length
  | m :: ms, 0, _ => by
    cases ms <;> simp [offL]
  | m :: ms, k + 1, h => by
    have := off_succ ms k (by simpa using h)
    rw [offL, this, offL]
    simp
    omega
theorem below_len : ∀ (k : List (Sp.Bs × Sp.T)) (ms : List (List LE)), ms.length = k.length → (belowL k ms).length = offL ms ms.length
  | [], [], _ => rfl
  | kt :: r, m :: ms, h => by
    rw [belowL, List.length_append, List.length_map, below_len r ms (by simpa using h), List.length_cons, offL]
theorem below_at : ∀ (k : List (Sp.Bs × Sp.T)) (ms : List (List LE)) (i : Nat) (h : i < k.length), ms.length = k.length → ∀ j (hj : j < (ms.getD i []).length), (belowL k ms)[offL ms i + j]? = some (preL (k[i]).1 (ms.getD i [])[j])
  | kt :: r, m :: ms, 0, _, _, j, hj => by
    have hj' : j < m.length := by simpa using hj
    rw [belowL, show offL (m :: ms) 0 = 0 from rfl, Nat.zero_add, List.getElem?_append_left (by simpa using hj'), List.getElem?_map, List.getElem?_eq_getElem hj']
    simp
  | kt :: r, m :: ms, i + 1, h, hl, j, hj => by
    have ih := below_at r ms i (by simpa using h) (by simpa using hl) j (by simpa using hj)
    rw [belowL, offL, List.getElem?_append_right (by simp; omega), List.length_map, show m.length + offL ms i + j - m.length = offL ms i + j by omega, ih]
    simp
/-- What is told of a leaf. -/
def encL (x : LE) : Array Value := #[.string (strOf (Sp.joinP x.2.2.1)), .slice x.1 x.2.2.2.length x.2.1]
/-- A directory, in a row of the walk's own. -/
def DirAt (W : World) (v : Value) (d : List Sp.Bs) : Prop := ∃ B, W.ownsRow B 9 1 v d.length (strsC d)
theorem DirAt.keep {T : TypeId → Prop} (hT : ¬ T 9) {B : Nat} {W W' : World} {v : Value} {d : List Sp.Bs} (h : DirAt W v d) (k : KB T B W W') : DirAt W' v d := by
  obtain ⟨b, h1, h2⟩ := h
  refine ⟨b, h1, ?_⟩
  rcases h2 with h2 | ⟨g, cap, cur, hv, hb, hg, rest⟩
  · exact .inl h2
  · exact .inr ⟨g, cap, cur, hv, hb, k.row _ _ _ _ hg hT, rest⟩
theorem DirAt.nil (W : World) : DirAt W (.slice none 0 0) [] := ⟨0, World.ownsRow_nil _ _ _ _⟩
theorem DirAt.read {W : World} {v : Value} {d : List Sp.Bs} (h : DirAt W v d) : ∃ A cap, v = .slice A d.length cap ∧ Nams W A d ∧ d.length ≤ cap := by
  obtain ⟨b, h⟩ := h
  obtain ⟨A, cap, rfl, hc⟩ := own_read h
  refine ⟨A, cap, rfl, hc, ?_⟩
  rcases h.2 with ⟨hv, h0⟩ | ⟨g, cap', cur, hv, _, _, hn, _⟩
  · omega
  · injection hv with _ _ h3; omega
end Go.Proofs.YteiblfcehlibpaaGreatDoor
namespace Go.Proofs.YteiblfcehlibpaaGreatDoor
open Go.RowKit Go.Shelf
attribute [local go_sem] yUpon strOf_toList
namespace Sp
theorem parts_len (d : Bs) : (parts d).length ≤ 4 := by
  unfold parts
  split
  · exact Nat.zero_le _
  · split
    · exact Nat.zero_le _
    · split
      · omega
      · exact Nat.zero_le _
def findS (t : T) (d : Bs) : Option T := if d = [] then some t else if parts d = [] then none else findT t (parts d)
theorem kid_fits {t : T} (h : Ok t) (hs : sizeT t ≤ 900000) {n : Bs} {s : T} (hk : kid t.kids n = some s) : Ok s ∧ sizeT s ≤ 900000 :=
  ⟨kid_ok t.kids n s (ok_rise h).2 hk, Nat.le_trans (kid_size t.kids n s hk) (by have := sizeT_n0 t; omega)⟩
end Sp
set_option maxRecDepth 100000 in
set_option maxHeartbeats 4000000 in
theorem find_calls (o : Option Sp.T) (v : Value) (d : Sp.Bs) (w : World) (h : TreeAt w v o) (hg : Sp.GoodO o) (K : KeysAt w 4) (M : MaxAt w) :
    Calls Tryz.prog 94 #[v, .string (strOf d)] w fun e w' => ∃ v', e = .returned v' ∧ OptAt w' v' (Sp.findS (o.getD .nil) d) ∧ Ext w w' := by
  have RC := Lib.hid (root_calls o v w h K)
  have MM := Lib.hid M
  obtain ⟨t, ht⟩ : ∃ t, t = o.getD .nil := ⟨_, rfl⟩
  rw [← ht] at RC ⊢
  have OK0 := Lib.hid (show Sp.Ok t by rw [ht]; exact getD_ok hg.1)
  have SZ0 := Lib.hid (show Sp.sizeT t ≤ 900000 by rw [ht, Sp.getD_size]; exact Nat.le_trans hg.2 (by decide))
  clear h K M ht hg
  go_enter Tryz.func94, Tryz.ntmps94
  go_wp2_with fail
  refine RC.out.mono ?_
  rintro e w1 ⟨g, rfl, hi, hb⟩
  have HI := Lib.hid hi
  have B1 := Lib.hid hb
  clear hi hb RC
  by_cases hd : d = []
  · subst hd
    have c1 : (([] : List UInt8).isEmpty) = true := rfl
    go_wp2
    go_ret
    exact ⟨_, rfl, .inr ⟨g, t, by rw [Sp.findS, if_pos rfl], rfl, HI.out⟩, B1.out⟩
  · have c1 : ((strOf d).toList == ([] : List UInt8)) = false := by rw [strOf_toList, beq_eq_false_iff_ne]; exact hd
    have c2 : ¬ strOf d = ⟨#[]⟩ := fun e => hd (by have := congrArg (fun s => s.data.toList) e; simpa using this)
    have c3 : ¬ d = [] := hd
    have c5 : d.isEmpty = false := by cases d with | nil => exact absurd rfl hd | cons _ _ => rfl
    have c6 : (d == []) = false := by rw [beq_eq_false_iff_ne]; exact hd
    have HD := Lib.hid hd
    clear hd
    go_wp2_with fail
    refine (parts_calls (strOf d) w1 (max_kept MM.out B1.out)).mono ?_
    intro e w2 hts
    obtain ⟨Ap, cp, rfl, hcp, hN, hb2⟩ := hts.nams
    rw [strOf_data] at hcp hN ⊢
    obtain ⟨ps, hps⟩ : ∃ ps, ps = Sp.parts d := ⟨_, rfl⟩
    have hp4 : ps.length ≤ 4 := by rw [hps]; exact Sp.parts_len d
    rw [← hps] at hcp hN ⊢
    have FS := Lib.hid (show Sp.findS t d = if ps = [] then none else Sp.findT t ps by rw [Sp.findS, if_neg HD.out, ← hps])
    have HN := Lib.hid hN
    have HI2 := Lib.hid (HI.out.ext hb2)
    have B2 := Lib.hid (B1.out.trans hb2)
    clear hts hcp hN hb2 hps
    by_cases hp : ps = []
    · subst hp
      go_wp2
      go_ret
      exact ⟨_, rfl, .inl ⟨by rw [FS.out]; simp, rfl⟩, B2.out⟩
    · have hl : ps.length ≠ 0 := fun h => hp (List.eq_nil_of_length_eq_zero h)
      have c4 : ((ps.length : Int) == 0) = false := by rw [beq_eq_false_iff_ne]; omega
      have FS2 := Lib.hid (show Sp.findS t d = Sp.findT t ps by rw [FS.out, if_neg hp])
      have HPN := Lib.hid hp
      clear hp
      go_wp2
      go_loopw [5, 21] (fun v5 v21 wr => ∃ (k gx : Nat) (tx : Sp.T), k ≤ ps.length ∧ v5 = .pointer (some ⟨gx, 0, none⟩) ∧ v21 = .int .i64 k ∧ InnerAt wr gx tx ∧ Sp.Ok tx ∧ Sp.sizeT tx ≤ 900000 ∧ Sp.findT tx (ps.drop k) = Sp.findT t ps ∧ Ext w2 wr) (fun _ v21 _ => ps.length - (intOf v21).toNat)
      case atStart => exact ⟨0, g, t, Nat.zero_le _, rfl, rfl, HI2.out, OK0.out, SZ0.out, rfl, Ext.refl _⟩
      case round =>
        obtain ⟨k, gx, tx, hk2, rfl, rfl, hix, hok, hsz, hft, hb⟩ := hrel
        have HB := Lib.hid hb
        by_cases hlt : k < ps.length
        · skip
          obtain ⟨nb, no, rfl, hnm⟩ := HN.out.at (by omega)
          have n1 := HB.out.cell (hnm k hlt)
          obtain ⟨n, hn⟩ : ∃ n, n = ps[k] := ⟨_, rfl⟩
          rw [← hn] at n1
          have FT := Lib.hid (show (Sp.kid tx.kids n).bind (fun s => Sp.findT s (ps.drop (k + 1))) = Sp.findT t ps by
            rw [List.drop_eq_getElem_cons hlt, ← hn] at hft
            exact hft)
          have KC := Lib.hid (ikid_calls tx gx n wr hix (ok_rise hok).1 (Sp.ok_fit hok (Nat.le_trans hsz (by decide))).2.2.1)
          have KF := Lib.hid (show ∀ s, Sp.kid tx.kids n = some s → Sp.Ok s ∧ Sp.sizeT s ≤ 900000 from fun s hs => Sp.kid_fits hok hsz hs)
          have b1 : (k : Int) < (ps.length : Int) := by omega
          clear hix hok hsz hft hb hnm hn
          go_wp2_with fail
          refine KC.out.mono ?_
          rintro e w4 ⟨v4, rfl, ho4, hb4⟩
          have E4 := Lib.hid (HB.out.trans hb4)
          rcases ho4 with ⟨h4, rfl⟩ | ⟨g4, t4, h4, rfl, hi4⟩
          · have F4 := Lib.hid (show Sp.findT t ps = none by rw [← FT.out, h4]; rfl)
            clear h4 hb4
            go_wp2
            go_ret
            exact ⟨_, rfl, .inl ⟨by rw [FS2.out, F4.out], rfl⟩, B2.out.trans E4.out⟩
          · have F4 := Lib.hid (show Sp.findT t4 (ps.drop (k + 1)) = Sp.findT t ps by rw [← FT.out, h4]; rfl)
            have OK4 := Lib.hid (KF.out t4 h4)
            have I4 := Lib.hid hi4
            clear h4 hb4 hi4
            go_wp2
            refine ⟨⟨k + 1, g4, t4, by omega, rfl, by go_num, I4.out, OK4.out.1, OK4.out.2, F4.out, E4.out⟩, by simp [intOf]; omega⟩
        · obtain rfl : k = ps.length := by omega
          rw [List.drop_length] at hft
          have F4 := Lib.hid (show some tx = Sp.findT t ps from hft)
          have I4 := Lib.hid hix
          clear hft hix hok hsz hb
          go_wp2
          go_ret
          exact ⟨_, rfl, .inr ⟨gx, tx, by rw [FS2.out, ← F4.out], rfl, I4.out⟩, B2.out.trans HB.out⟩
end Go.Proofs.YteiblfcehlibpaaGreatDoor
namespace Go.Proofs.YteiblfcehlibpaaGreatDoor
open Go.RowKit Go.Shelf
attribute [local go_sem] yUpon strOf_toList
theorem results_cell_two {P : Program} {fn : Func} {p u : Tmp} {ty : TypeId} (h : fn.results = #[.cell p ty, .tmp u]) (tmps : Array Value) (w : World) (g : Nat) (t : TypeId) (cs : Array Value) (d : TypeDesc)
    (hp : tmps.getD p undef = .pointer (some ⟨g, 0, none⟩)) (hg : isBlk w g t cs) (hu : P.underlying ty = some d) (hd : (match d with | .struct _ | .array _ _ => true | _ => false) = true) (hi : (P.info? ty).map (·.size) = some cs.size) :
    (results fn tmps).run P w = .ok (.tuple #[.agg cs, tmps.getD u undef]) w := by
  rw [results_cell_tmp h, hp]
  simp only [asAddr, Sem.run_pure, Result.andThen_ok]
  rw [run_loadVar_row w g t ty cs (0, 0) d hg hu hd hi]
  rfl
namespace Sp
theorem findT_fits : ∀ (d : List Bs) (t s : T), Ok t → sizeT t ≤ 900000 → findT t d = some s → Ok s ∧ sizeT s ≤ 900000
  | [], t, s, h, hs, e => by cases e; exact ⟨h, hs⟩
  | n :: d, t, s, h, hs, e => by
    rw [findT] at e
    cases hk : kid t.kids n with
    | none => rw [hk] at e; cases e
    | some u =>
      rw [hk] at e
      have := kid_fits h hs hk
      exact findT_fits d u s this.1 this.2 e
theorem findS_fits {t s : T} {d : Bs} (h : Ok t) (hs : sizeT t ≤ 900000) (e : findS t d = some s) : Ok s ∧ sizeT s ≤ 900000 := by
  unfold findS at e
  split at e
  · cases e; exact ⟨h, hs⟩
  · split at e
    · cases e
    · exact findT_fits _ _ _ h hs e
/-- The node at a directory; the empty one, if there is none. -/
def nodeS (t : T) (d : Bs) : Node := match findS t d with
  | none => ([], [])
  | some s => nodeT s
end Sp
set_option maxRecDepth 100000 in
set_option maxHeartbeats 4000000 in
theorem tnode_calls (o : Option Sp.T) (v : Value) (d : Sp.Bs) (w : World) (h : TreeAt w v o) (hg : Sp.GoodO o) (K : KeysAt w 4) (M : MaxAt w) :
    Calls Tryz.prog 116 #[v, .string (strOf d)] w fun e w' => ∃ A c B c', e = .returned (.tuple #[nodeV A (Sp.nodeS (o.getD .nil) d).1.length c B (Sp.nodeS (o.getD .nil) d).2.length c', .bool (Sp.findS (o.getD .nil) d).isSome]) ∧ Vers w' A (Sp.nodeS (o.getD .nil) d).1 ∧ Kids w' B (Sp.nodeS (o.getD .nil) d).2 ∧ Ext w w' := by
  have FC := Lib.hid fun W (e : Ext w W) => find_calls o v d W (h.ext e) hg (K.ext e) (max_kept M e)
  obtain ⟨t, ht⟩ : ∃ t, t = o.getD .nil := ⟨_, rfl⟩
  rw [← ht] at FC ⊢
  have OK0 := Lib.hid (show Sp.Ok t by rw [ht]; exact getD_ok hg.1)
  have SZ0 := Lib.hid (show Sp.sizeT t ≤ 900000 by rw [ht, Sp.getD_size]; exact Nat.le_trans hg.2 (by decide))
  have tok1 : True := trivial
  clear h K M ht hg
  go_enter Tryz.func116, Tryz.ntmps116
  go_wp2_with (have _t := tok1; ((with_reducible refine at_alloc (t := 80) rfl ?_); refine box_new rfl (cs := #[.slice none 0 0, .slice none 0 0]) (t := 80) (by first | (go_simp; done) | (go_simp; rfl)) ?_; intro g2 w2 hg2 hx2 hb2; have H2 := Lib.hid hx2; have B2 := Lib.hid (show Ext w w2 from hb2); have GG2 := Lib.hid hg2; clear tok1 _t hx2 hb2 hg2))
  refine (FC.out w2 B2.out).mono ?_
  rintro e w3 ⟨v3, rfl, ho3, hb3⟩
  have B3 := Lib.hid (show Ext w2 w3 from hb3)
  have H3 := Lib.hid (H2.out.below hb3)
  clear hb3 FC
  rcases ho3 with ⟨h3, rfl⟩ | ⟨g3, s, h3, rfl, hi3⟩
  · have N3 := Lib.hid (show Sp.nodeS t d = ([], []) by rw [Sp.nodeS, h3])
    have F3 := Lib.hid h3
    have k0 := (H3.out.cell 0).trans rfl
    have k1 := (H3.out.cell 1).trans rfl
    have k2 := H3.out.frozen 0
    have k3 := H3.out.frozen 1
    clear h3
    go_wp2
    have hz := (H3.out.put 0 (.slice none 0 0) rfl).put 1 (.slice none 0 0) rfl
    refine bodyPost_ret (results_cell_two rfl _ _ g2 80 #[.slice none 0 0, .slice none 0 0] _ rfl hz Tryz.underlying80 rfl (by kernel_rfl)) rfl ?_
    rw [N3.out, F3.out]
    have e1 := (Only.set g2 0 (.slice none 0 0) w3).trans (Only.set g2 1 (.slice none 0 0) _)
    have BW := B2.out.trans B3.out
    exact ⟨none, 0, none, 0, rfl, ⟨[], rfl, Cells.nil _ _, fun x h => by cases h⟩, Kids.nil _ _, BW.from' (e1.below GG2.out BW.size)⟩
  · have N3 := Lib.hid (show Sp.nodeS t d = Sp.nodeT s by rw [Sp.nodeS, h3])
    have F3 := Lib.hid h3
    have FT := Lib.hid (Sp.ok_fit (Sp.findS_fits OK0.out SZ0.out h3).1 (Nat.le_trans (Sp.findS_fits OK0.out SZ0.out h3).2 (by decide)))
    obtain ⟨A, B, C, c, c', c'', gs, hp⟩ := hi3.pre
    have IN := Lib.hid (inode_calls s g3 A B C c c' c'' gs _ w3 hp FT.out.1 FT.out.2.1 FT.out.2.2.1 FT.out.2.2.2.1)
    clear h3 hi3 hp
    go_wp2_with fail
    refine IN.out.mono ?_
    rintro e w4 ⟨A4, c4, B4, c5, rfl, hv4, hk4, hb4⟩
    have H4 := Lib.hid (H3.out.below hb4)
    have E4 := Lib.hid (B2.out.trans (B3.out.trans hb4))
    have V4 := Lib.hid hv4
    have K4 := Lib.hid hk4
    have k0 := (H4.out.cell 0).trans rfl
    have k1 := (H4.out.cell 1).trans rfl
    have k2 := H4.out.frozen 0
    have k3 := H4.out.frozen 1
    clear hv4 hk4 hb4
    go_wp2
    have hz := (H4.out.put 0 (.slice A4 s.leaf.length c4) rfl).put 1 (.slice B4 s.kids.length c5) rfl
    refine bodyPost_ret (results_cell_two rfl _ _ g2 80 #[.slice A4 s.leaf.length c4, .slice B4 s.kids.length c5] _ rfl hz Tryz.underlying80 rfl (by kernel_rfl)) rfl ?_
    have e1 := (Only.set g2 0 (.slice A4 s.leaf.length c4) w4).trans (Only.set g2 1 (.slice B4 s.kids.length c5) _)
    have hs : ∀ z ∈ (#[.slice none 0 0, .slice none 0 0] : Array Value).toList, isSl z = true := by decide
    have nlen : (Sp.nodeT s).2.length = s.kids.length := by rw [nodeT_kids, List.length_map]
    rw [N3.out, F3.out]
    refine ⟨A4, c4, B4, c5, by rw [nodeT_leaf, nlen]; rfl, ?_, K4.out.apart e1 H4.out hs, E4.out.from' (e1.below GG2.out E4.out.size)⟩
    rw [nodeT_leaf]
    exact V4.out.apart e1 H4.out hs
set_option maxRecDepth 100000 in
set_option maxHeartbeats 4000000 in
theorem tget_calls (o : Option Sp.T) (v : Value) (d : Sp.Bs) (w : World) (h : TreeAt w v o) (hg : Sp.GoodO o) (K : KeysAt w 4) (M : MaxAt w) :
    Calls Tryz.prog 58 #[v, .string (strOf d)] w fun e w' => ∃ A c, e = .returned (.slice A (Sp.nodeS (o.getD .nil) d).1.length c) ∧ Vers w' A (Sp.nodeS (o.getD .nil) d).1 ∧ Ext w w' := by
  have FC := Lib.hid (find_calls o v d w h hg K M)
  obtain ⟨t, ht⟩ : ∃ t, t = o.getD .nil := ⟨_, rfl⟩
  rw [← ht] at FC ⊢
  have OK0 := Lib.hid (show Sp.Ok t by rw [ht]; exact getD_ok hg.1)
  have SZ0 := Lib.hid (show Sp.sizeT t ≤ 900000 by rw [ht, Sp.getD_size]; exact Nat.le_trans hg.2 (by decide))
  clear h K M ht hg
  go_enter Tryz.func58, Tryz.ntmps58
  go_wp2_with fail
  refine FC.out.mono ?_
  rintro e w3 ⟨v3, rfl, ho3, hb3⟩
  have B3 := Lib.hid (show Ext w w3 from hb3)
  clear hb3 FC
  rcases ho3 with ⟨h3, rfl⟩ | ⟨g3, s, h3, rfl, hi3⟩
  · have N3 := Lib.hid (show Sp.nodeS t d = ([], []) by rw [Sp.nodeS, h3])
    clear h3
    go_wp2
    go_ret
    rw [N3.out]
    exact ⟨none, 0, rfl, ⟨[], rfl, Cells.nil _ _, fun x h => by cases h⟩, B3.out⟩
  · have N3 := Lib.hid (show (Sp.nodeS t d).1 = s.leaf by rw [Sp.nodeS, h3]; exact nodeT_leaf s)
    have FT := Lib.hid (Sp.ok_fit (Sp.findS_fits OK0.out SZ0.out h3).1 (Nat.le_trans (Sp.findS_fits OK0.out SZ0.out h3).2 (by decide)))
    obtain ⟨A, B, C, c, c', c'', gs, hp⟩ := hi3.pre
    have CP := Lib.hid (copied_calls s.leaf A c w3 hp.V FT.out.1 FT.out.2.1)
    have f0 := (hp.blk.cell 0).trans hp.c0
    clear h3 hi3 hp
    go_wp2_with fail
    refine CP.out.mono ?_
    rintro e w4 ⟨v4, rfl, hO4, hb4⟩
    obtain ⟨A4, c4, rfl, hV4⟩ := hO4.read
    have V4 := Lib.hid hV4
    have E4 := Lib.hid (B3.out.trans hb4)
    clear hO4 hV4 hb4
    go_wp2
    go_ret
    rw [N3.out]
    exact ⟨A4, c4, rfl, V4.out, E4.out⟩
end Go.Proofs.YteiblfcehlibpaaGreatDoor
namespace Go.Proofs.YteiblfcehlibpaaGreatDoor
open Go.RowKit Go.Shelf
attribute [local go_sem] yUpon strOf_toList
set_option maxRecDepth 100000 in
set_option maxHeartbeats 4000000 in
theorem troot_calls (o : Option Sp.T) (v : Value) (w : World) (h : TreeAt w v o) (K : KeysAt w 4) :
    Calls Tryz.prog 81 #[v] w fun e w' => e = .returned (digV (Sp.nsum (Sp.nodeT (o.getD .nil)))) ∧ Ext w w' := by
  have RC := Lib.hid fun W (e : Ext w W) => root_calls o v W (h.ext e) (K.ext e)
  obtain ⟨ds, hds⟩ : ∃ ds, ds = (Sp.nsum (Sp.nodeT (o.getD .nil))).map byteV := ⟨_, rfl⟩
  have DL := Lib.hid (show ds.length = 32 by rw [hds, List.length_map, Sp.nsum_len])
  have HD := Lib.hid hds
  have AS := Lib.hid (show ds.toArray.size = 32 by rw [List.size_toArray, hds, List.length_map, Sp.nsum_len])
  have DA := Lib.hid (show ds.toArray.all (·.oneCell') = true by rw [hds]; exact all_oneCell_toArray (bytes_one _))
  have tok1 : True := trivial
  have tok2 : True := trivial
  have tok3 : True := trivial
  clear h K hds
  go_enter Tryz.func81, Tryz.ntmps81
  go_wp2_with (have _t := tok1; ((with_reducible refine at_alloc (t := 110) rfl ?_); refine box_new rfl (cs := zero32) (t := 110) (by first | (go_simp; done) | (go_simp; rfl)) ?_; intro g2 w2 hg2 hx2 hb2; have H2 := Lib.hid hx2; have B2 := Lib.hid (show Ext w w2 from hb2); have GG2 := Lib.hid hg2; clear tok1 _t hx2 hb2 hg2))
  refine (RC.out w2 B2.out).mono ?_
  rintro e w3 ⟨g, rfl, hi, hb3⟩
  have H3 := Lib.hid (H2.out.below hb3)
  have E3 := Lib.hid (B2.out.trans hb3)
  have RNG := Lib.hid (show w3.rangeAt g 4 ds by rw [HD.out]; exact hi.cells.2.1)
  clear hi hb3 RC
  go_wp2_with (first
    | (have _t := tok2; ((with_reducible refine at_load (t := 110) rfl ?_); refine wpList_load_mid rfl _ _ rfl g 4 rfl ds _ RNG.out Tryz.underlying110 rfl (by rw [DL.out]; kernel_rfl) ?_; clear tok2 _t))
    | (have _t := tok3; ((with_reducible refine at_store (t := 110) rfl ?_); refine wpList_store_row rfl _ _ _ rfl g2 ds.toArray rfl rfl 110 _ H3.out (by rw [AS.out]; kernel_rfl) (by rw [AS.out]; rfl) DA.out ?_; clear tok3 _t)))
  refine bodyPost_ret (results_cell_row rfl _ _ g2 110 ds.toArray (0, 0) _ rfl (setRow_heap _ _ _ _ _ _ H3.out) Tryz.underlying110 rfl (by rw [AS.out]; kernel_rfl)) rfl ?_
  exact ⟨by rw [HD.out]; rfl, below_setRow E3.out GG2.out _⟩
end Go.Proofs.YteiblfcehlibpaaGreatDoor
