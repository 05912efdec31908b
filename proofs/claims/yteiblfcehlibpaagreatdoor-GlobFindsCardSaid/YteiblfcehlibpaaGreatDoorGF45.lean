/- Walks: a pattern over a path, from its texts on; the examples. Globs: which files a pattern finds. -/
import Derived.Test.YteiblfcehlibpaaGreatDoorGF44
namespace Go.Proofs.YteiblfcehlibpaaGreatDoor
open Go.RowKit

theorem short_split {s : ByteArray} {L : List ByteArray} (h : L.map (·.data.toList) = Sp.split s.data.toList) (hs : s.size ≤ 10000) : Short L := fun x hx => by
  obtain ⟨k, hk, rfl⟩ := List.getElem_of_mem hx
  have := split_sizes s L h k hk; omega
theorem short_parts {s : ByteArray} {L : List ByteArray} (h : L.map (·.data.toList) = Sp.parts s.data.toList) : Short L := fun x hx => by
  have hm : x.data.toList ∈ Sp.parts s.data.toList := by rw [← h]; exact List.mem_map.2 ⟨x, hx, rfl⟩
  unfold Sp.parts at hm
  repeat' split at hm
  all_goals first | (simp at hm; done) | skip
  have := Sp.split_mem_le _ _ hm
  have e1 : x.data.toList.length = x.size := by simp
  have h51 : ¬ 51 < s.data.toList.length := by assumption
  omega
theorem parts_len (s : Sp.Bs) : (Sp.parts s).length ≤ 4 := by
  unfold Sp.parts
  split
  · simp
  · split
    · simp
    · split
      · omega
      · simp

set_option maxHeartbeats 2000000 in
theorem gmatch_calls (p s : ByteArray) (w : World) (hsh : ∃ m, w.cell? ⟨0, 0, none⟩ = some (.int .i64 m)) (hp : p.size ≤ 900) :
    Calls Tryz.prog 76 #[.string p, .string s] w fun e w' => e = .returned (.bool (Sp.gmatch p.data.toList s.data.toList)) ∧ Below w.heap.size w w' := by
  by_cases hc : Sp.gcheck p.data.toList = 0
  · have e0 : (Sp.gcheck p.data.toList != 0) = false := by rw [hc]; rfl
    by_cases hq : Sp.parts s.data.toList = []
    · have F := Lib.hid (show Sp.gmatch p.data.toList s.data.toList = false by unfold Sp.gmatch; rw [hq]; simp)
      have HQ := Lib.hid hq
      clear hq hc
      go_enter Tryz.func76, Tryz.ntmps76
      go_wp2_with fail
      refine (parts_calls s _ hsh).mono ?_
      rintro e w1 ⟨hb, ⟨_, rfl⟩ | ⟨g, cap, L, hl, _, rfl, hL, _⟩⟩
      · go_wp2_with fail
        refine (gcheck_calls p _ (max_kept hsh hb) (by omega)).mono ?_
        rintro e w2 ⟨rfl, hb2⟩
        go_wp2
        go_ret
        exact ⟨ret_bool F.out.symm, keep_below hb hb2⟩
      · rw [HQ.out, List.map_eq_nil_iff] at hL
        rw [hL] at hl; simp at hl
    · have F := Lib.hid (show Sp.gmatch p.data.toList s.data.toList = Sp.lm (Sp.split p.data.toList) (Sp.parts s.data.toList) by unfold Sp.gmatch; rw [hc]; simp [hq])
      go_enter Tryz.func76, Tryz.ntmps76
      go_wp2_with fail
      refine (parts_calls s _ hsh).mono ?_
      rintro e w1 ⟨hb, ⟨h0, _⟩ | ⟨g, cap, M, hl, hlc, rfl, hM, hS, hg⟩⟩
      · exact absurd h0 hq
      · have HM := Lib.hid hM
        have HS := Lib.hid hS
        have hl0 : ((M.length : Int) == 0) = false := beq_eq_false_iff_ne.2 (by omega)
        have hM4 : M.length ≤ 4 := by have := parts_len s.data.toList; rw [← hM, List.length_map] at this; exact this
        have hMs := short_parts hM
        clear hM hS hq hc
        go_wp2_with fail
        refine (gcheck_calls p _ (max_kept hsh hb) (by omega)).mono ?_
        rintro e w2 ⟨rfl, hb2⟩
        go_wp2_with fail
        have hS2 : Rd w2 (some ⟨g, 0, none⟩) M := fun _ => ⟨g, 0, rfl, fun k hk => by rw [Nat.zero_add]; exact keep_cell (HS.out k hk) hb2⟩
        have hx2 := max_kept (max_kept hsh hb) hb2
        obtain ⟨b, hbe⟩ : ∃ b, b = w2.heap.size := ⟨_, rfl⟩
        obtain ⟨W3, hW3⟩ : ∃ W3, W3 = w2.alloc (.cells #[lmFn b] 31) := ⟨_, rfl⟩
        have hb3 : Below w2.heap.size w2 W3 := by rw [hW3]; exact (Below.refl _ _).alloc (Nat.le_refl _) _
        have hc3 : W3.cell? ⟨b, 0, none⟩ = some (lmFn b) := by rw [hW3, hbe, cell_of_row _ w2.heap.size 0 _ _ (0, 0) (heap_alloc_new w2 _)]; rfl
        rw [← hbe, ← hW3]
        have hS3 := hS2.below hb3
        have hx3 := max_kept hx2 hb3
        have hbW := keep_below (keep_below hb hb2) hb3
        clear hbe hW3 hS2 hx2
        go_region_held3 (fun W => W.cell? ⟨b, 0, none⟩ = some (lmFn b) ∧ Below W3.heap.size W3 W) (first | exact ⟨keep_cell hc3 ‹Below W3.heap.size W3 _›, ‹Below W3.heap.size W3 _›⟩ | exact ⟨hc3, (Below.refl _ _).drew⟩) (first
          | (go_at_call 102; obtain ⟨_, hB⟩ := ‹_ ∧ Below _ _ _›; refine (split_calls p _ (max_kept hx3 hB) ?_).mono ?_; omega; rintro e w4 ⟨g4, L, rfl, hL, hS4, hb4, hg4, hn4⟩; have hB4 := keep_below hB hb4; have HL := Lib.hid hL; have HS4 := Lib.hid hS4; clear hL hS4)
          | (go_at_call 110; obtain ⟨hcc, hB⟩ := ‹_ ∧ Below _ _ _›; refine (lm_calls b 1000 L M _ _ _ cap _ ?_ ?_ ?_ hlc ?_ (hS3.below hB) (short_split HL.out ?_) hMs (max_kept hx3 hB) hcc).mono ?_; omega; omega; omega; exact fun _ => ⟨g4, 0, rfl, fun k hk => (Nat.zero_add k).symm ▸ HS4.out k hk⟩; omega; rintro e w5 ⟨rfl, hb5⟩; have hB5 := keep_below hB hb5))
        go_wp2
        go_ret
        exact ⟨ret_bool (by rw [F.out, HL.out, HM.out]), keep_below hbW hB5⟩
  · have F := Lib.hid (show Sp.gmatch p.data.toList s.data.toList = false by unfold Sp.gmatch; simp [hc])
    have e0 : (Sp.gcheck p.data.toList != 0) = true := by simpa using hc
    clear hc
    go_enter Tryz.func76, Tryz.ntmps76
    go_wp2_with fail
    refine (parts_calls s _ hsh).mono ?_
    rintro e w1 ⟨hb, ⟨_, rfl⟩ | ⟨g, cap, L, hl, _, rfl, hL, _⟩⟩
    all_goals
      go_wp2_with fail
      refine (gcheck_calls p _ (max_kept hsh hb) (by omega)).mono ?_
      rintro e w2 ⟨rfl, hb2⟩
      go_wp2
      go_ret
      exact ⟨ret_bool F.out.symm, keep_below hb hb2⟩
end Go.Proofs.YteiblfcehlibpaaGreatDoor
namespace Go.Proofs.YteiblfcehlibpaaGreatDoor
open Go.RowKit Go.Shelf
attribute [local go_sem] yUpon strOf_toList
namespace Sp
def finds (p : Bs) (l : List Bs) : List Bs := l.filter fun s => gmatch p s
theorem finds_take (p : Bs) (l : List Bs) (k : Nat) (h : k < l.length) : finds p (l.take (k + 1)) = finds p (l.take k) ++ if gmatch p l[k] = true then [l[k]] else [] := by
  unfold finds
  rw [List.take_succ_eq_append_getElem h, List.filter_append]
  congr 1
  by_cases hp : gmatch p l[k] = true
  · simp [hp]
  · simp [hp]
theorem finds_len (p : Bs) (l : List Bs) : (finds p l).length ≤ l.length := List.length_filter_le _ _
end Sp
set_option maxRecDepth 100000 in
set_option maxHeartbeats 4000000 in
theorem gfind_calls (o : Option Sp.T) (v : Value) (m : List Sp.DE) (BO : Sp.Both o m) (p : Sp.Bs) (hp : p.length ≤ 900) (w : World) (hT : TreeAt w v o) (K : KeysAt w 4) (M : MaxAt w) (hv : ∀ e ∈ m, e.2.length ≤ 1000) :
    Calls Tryz.prog 42 #[v, .string (strOf p)] w fun e w' => ∃ A c, e = .returned (.slice A (Sp.finds p (Sp.seenP m)).length c) ∧ Nams w' A (Sp.finds p (Sp.seenP m)) ∧ Ext w w' := by
  have FC := Lib.hid (files_calls o v m BO w hT K hv)
  have GC := Lib.hid fun (s : Sp.Bs) W (e : Ext w W) => gmatch_calls (strOf p) (strOf s) W (max_kept M e) (by rw [strOf_size]; exact hp)
  simp only [strOf_data] at GC
  have ml : (Sp.seenP m).length ≤ 128 := Nat.le_trans (Sp.seenP_len m) BO.gm.2
  obtain ⟨P, hP⟩ : ∃ P, P = Sp.seenP m := ⟨_, rfl⟩
  rw [← hP] at FC ml ⊢
  obtain ⟨ap, rfl⟩ := tree_ptr hT
  clear hT K BO hv hP M hp
  go_enter Tryz.func42, Tryz.ntmps42
  go_wp2_with fail
  refine FC.out.mono ?_
  rintro e w2 ⟨A2, c2, fs, rfl, hm, hC, hb2⟩
  have B2 := Lib.hid hb2
  have C2 := Lib.hid hC
  have hl : fs.length = P.length := by have := congrArg List.length hm; rwa [List.length_map] at this
  have PK := Lib.hid (show ∀ k (h : k < fs.length) {h' : k < P.length}, P[k]'h' = fs[k].1 from fun k h h' => by simp only [← hm, List.getElem_map])
  have fl : fs.length ≤ 128 := by omega
  have HL := Lib.hid hl
  clear hb2 hC FC hm hl
  go_wp2
  go_loopw [5, 11] (fun v5 v11 wr => ∃ k : Nat, k ≤ fs.length ∧ v11 = .int .i64 k ∧ wr.ownsRow w2.heap.size 9 1 v5 (Sp.finds p (P.take k)).length (strsC (Sp.finds p (P.take k))) ∧ Ext w2 wr) (fun _ v11 _ => fs.length - (intOf v11).toNat)
  case atStart => exact ⟨0, Nat.zero_le _, rfl, World.ownsRow_nil _ _ _ _, Ext.refl _⟩
  case round =>
    obtain ⟨k, hk, rfl, hO, hb⟩ := hrel
    have HB := Lib.hid hb
    have HO := Lib.hid hO
    by_cases hlt : k < fs.length
    · obtain ⟨eb, eo, rfl, hc⟩ := C2.out (by intro e; have := filesC_len fs; rw [e] at this; simp at this; omega)
      obtain ⟨e0, e1⟩ := filesC_get fs k hlt
      have c0 := hb.cell (hc _ _ e0)
      have c1 := hb.cell (hc _ _ e1)
      rw [← Nat.add_assoc] at c1
      have hkP : k < P.length := by have := HL.out; omega
      have ST := Lib.hid (Sp.finds_take p P k hkP)
      rw [show P[k] = fs[k].1 from PK.out k hlt] at ST
      have nl := Sp.finds_len p (P.take k)
      rw [List.length_take] at nl
      obtain ⟨x, hx⟩ : ∃ x, x = fs[k] := ⟨_, rfl⟩
      rw [← hx] at c0 c1 ST
      obtain ⟨out, hout⟩ : ∃ out, out = Sp.finds p (P.take k) := ⟨_, rfl⟩
      rw [← hout] at HO ST nl
      have kb : (k : Int) < (fs.length : Int) := by omega
      clear hO hb hc e0 e1 hx hout
      go_upto_region 5 with fail
      obtain ⟨w6, hw6⟩ : ∃ w6, w6 = wr.alloc (.cells #[.string (strOf x.1), .string (strOf x.2)] 107) := ⟨_, rfl⟩
      have X6 := Lib.hid (show isBlk w6 wr.heap.size 107 #[.string (strOf x.1), .string (strOf x.2)] by rw [hw6]; exact box_at wr _ _)
      have E6 := Lib.hid (show Ext wr w6 by rw [hw6]; exact Ext.alloc _ _)
      rw [← hw6]
      clear hw6 c0 c1
      have f0 := (X6.out.cell 0).trans rfl
      go_wp2_with fail
      refine (GC.out x.1 w6 (B2.out.trans (HB.out.trans E6.out))).mono ?_
      rintro e w7 ⟨rfl, hb7⟩
      have E7 := Lib.hid (E6.out.trans (show Ext w6 w7 from hb7))
      have X7 := Lib.hid (X6.out.below hb7)
      have B7 := Lib.hid (HB.out.trans E7.out)
      obtain ⟨b, hbb⟩ : ∃ b, b = Sp.gmatch p x.1 := ⟨_, rfl⟩
      rw [← hbb] at ST ⊢
      clear hb7 f0 hbb
      have f0 := (X7.out.cell 0).trans rfl
      cases b with
      | false =>
        have ST2 := Lib.hid (show Sp.finds p (P.take (k + 1)) = out by rw [ST.out]; simp)
        have O7 := Lib.hid (own_ext HO.out E7.out)
        go_wp2
        go_roundw
        case rel => exact ⟨k + 1, by omega, by go_num, by rw [ST2.out]; exact O7.out, B7.out⟩
        case measure => simp [intOf]; omega
      | true =>
        have ST2 := Lib.hid (show Sp.finds p (P.take (k + 1)) = out ++ [x.1] by rw [ST.out]; simp)
        have tokA : True := trivial
        go_wp2_with (have _t := tokA; at_builtin; refine app_new appStr rfl _ _ rfl w2.heap.size _ out.length _ rfl (own_ext HO.out E7.out) #[.string (strOf x.1)] 9 1 rfl rfl (by intro u hu; simp at hu; subst hu; rfl) (by decide) (by omega) B7.out.size ?_; intro g9 cap9 w9 hown9 hgr9 hb9 hbg9; have O9 := Lib.hid hown9; have B9 := Lib.hid (Below.trans B7.out hb9); clear tokA _t hown9 hgr9 hb9 hbg9)
        go_roundw
        case rel =>
          refine ⟨k + 1, by omega, by go_num, ?_, B9.out⟩
          rw [ST2.out, List.length_append, strsC, List.map_append]
          exact O9.out
        case measure => simp [intOf]; omega
    · obtain rfl : k = fs.length := by omega
      rw [HL.out, List.take_length] at hO
      obtain ⟨A3, c3, rfl, hc3⟩ := own_read hO
      clear hO HO
      go_wp2
      go_ret
      exact ⟨A3, c3, rfl, hc3, B2.out.trans HB.out⟩
end Go.Proofs.YteiblfcehlibpaaGreatDoor
