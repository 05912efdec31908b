/- Walks: a pattern over a path, from its texts on; the examples. -/
import Derived.Test.YtbjdgiocehoaiaaDoorGlobD
namespace Go.Proofs.YtbjdgiocehoaiaaDoor
open Go.RowKit

theorem short_split {s : ByteArray} {L : List ByteArray} (h : L.map (·.data.toList) = Sp.split s.data.toList) (hs : s.size ≤ 10000) : Short L := fun x hx => by
  obtain ⟨k, hk, rfl⟩ := List.getElem_of_mem hx
  have := split_sizes s L h k hk; omega
theorem short_parts {s : ByteArray} {L : List ByteArray} (h : L.map (·.data.toList) = Sp.parts s.data.toList) : Short L := fun x hx => by
  have hm : x.data.toList ∈ Sp.parts s.data.toList := by rw [← h]; exact List.mem_map.2 ⟨x, hx, rfl⟩
  unfold Sp.parts at hm
  repeat' split at hm
  all_goals first | (simp at hm; done) | skip
  have := Sp.split_mem_le _ _ hm
  have e1 : x.data.toList.length = x.size := by simp
  have h51 : ¬ 51 < s.data.toList.length := by assumption
  omega
theorem parts_len (s : Sp.Bs) : (Sp.parts s).length ≤ 4 := by
  unfold Sp.parts
  split
  · simp
  · split
    · simp
    · split
      · omega
      · simp

set_option maxHeartbeats 2000000 in
theorem gmatch_calls (p s : ByteArray) (w : World) (hsh : ∃ m, w.cell? ⟨0, 0, none⟩ = some (.int .i64 m)) (hp : p.size ≤ 900) :
    Calls Tryd.prog 14 #[.string p, .string s] w fun e w' => e = .returned (.bool (Sp.gmatch p.data.toList s.data.toList)) ∧ Below w.heap.size w w' := by
  by_cases hc : Sp.gcheck p.data.toList = 0
  · have e0 : (Sp.gcheck p.data.toList != 0) = false := by rw [hc]; rfl
    by_cases hq : Sp.parts s.data.toList = []
    · have F := Lib.hid (show Sp.gmatch p.data.toList s.data.toList = false by unfold Sp.gmatch; rw [hq]; simp)
      have HQ := Lib.hid hq
      clear hq hc
      go_enter Tryd.func14, Tryd.ntmps14
      go_wp2_with fail
      refine (parts_calls s _ hsh).mono ?_
      rintro e w1 ⟨hb, ⟨_, rfl⟩ | ⟨g, cap, L, hl, _, rfl, hL, _⟩⟩
      · go_wp2_with fail
        refine (gcheck_calls p _ (max_kept hsh hb) (by omega)).mono ?_
        rintro e w2 ⟨rfl, hb2⟩
        go_wp2
        go_ret
        exact ⟨ret_bool F.out.symm, keep_below hb hb2⟩
      · rw [HQ.out, List.map_eq_nil_iff] at hL
        rw [hL] at hl; simp at hl
    · have F := Lib.hid (show Sp.gmatch p.data.toList s.data.toList = Sp.lm (Sp.split p.data.toList) (Sp.parts s.data.toList) by unfold Sp.gmatch; rw [hc]; simp [hq])
      go_enter Tryd.func14, Tryd.ntmps14
      go_wp2_with fail
      refine (parts_calls s _ hsh).mono ?_
      rintro e w1 ⟨hb, ⟨h0, _⟩ | ⟨g, cap, M, hl, hlc, rfl, hM, hS, hg⟩⟩
      · exact absurd h0 hq
      · have HM := Lib.hid hM
        have HS := Lib.hid hS
        have hl0 : ((M.length : Int) == 0) = false := beq_eq_false_iff_ne.2 (by omega)
        have hM4 : M.length ≤ 4 := by have := parts_len s.data.toList; rw [← hM, List.length_map] at this; exact this
        have hMs := short_parts hM
        clear hM hS hq hc
        go_wp2_with fail
        refine (gcheck_calls p _ (max_kept hsh hb) (by omega)).mono ?_
        rintro e w2 ⟨rfl, hb2⟩
        go_wp2_with fail
        have hS2 : Rd w2 (some ⟨g, 0, none⟩) M := fun _ => ⟨g, 0, rfl, fun k hk => by rw [Nat.zero_add]; exact keep_cell (HS.out k hk) hb2⟩
        have hx2 := max_kept (max_kept hsh hb) hb2
        obtain ⟨b, hbe⟩ : ∃ b, b = w2.heap.size := ⟨_, rfl⟩
        obtain ⟨W3, hW3⟩ : ∃ W3, W3 = w2.alloc (.cells #[lmFn b] 44) := ⟨_, rfl⟩
        have hb3 : Below w2.heap.size w2 W3 := by rw [hW3]; exact (Below.refl _ _).alloc (Nat.le_refl _) _
        have hc3 : W3.cell? ⟨b, 0, none⟩ = some (lmFn b) := by rw [hW3, hbe, cell_of_row _ w2.heap.size 0 _ _ (0, 0) (heap_alloc_new w2 _)]; rfl
        rw [← hbe, ← hW3]
        have hS3 := hS2.below hb3
        have hx3 := max_kept hx2 hb3
        have hbW := keep_below (keep_below hb hb2) hb3
        clear hbe hW3 hS2 hx2
        go_region_held3 (fun W => W.cell? ⟨b, 0, none⟩ = some (lmFn b) ∧ Below W3.heap.size W3 W) (first | exact ⟨keep_cell hc3 ‹Below W3.heap.size W3 _›, ‹Below W3.heap.size W3 _›⟩ | exact ⟨hc3, (Below.refl _ _).drew⟩) (first
          | (go_at_call 26; obtain ⟨_, hB⟩ := ‹_ ∧ Below _ _ _›; refine (split_calls p _ (max_kept hx3 hB) ?_).mono ?_; omega; rintro e w4 ⟨g4, L, rfl, hL, hS4, hb4, hg4, hn4⟩; have hB4 := keep_below hB hb4; have HL := Lib.hid hL; have HS4 := Lib.hid hS4; clear hL hS4)
          | (go_at_call 34; obtain ⟨hcc, hB⟩ := ‹_ ∧ Below _ _ _›; refine (lm_calls b 1000 L M _ _ _ cap _ ?_ ?_ ?_ hlc ?_ (hS3.below hB) (short_split HL.out ?_) hMs (max_kept hx3 hB) hcc).mono ?_; omega; omega; omega; exact fun _ => ⟨g4, 0, rfl, fun k hk => (Nat.zero_add k).symm ▸ HS4.out k hk⟩; omega; rintro e w5 ⟨rfl, hb5⟩; have hB5 := keep_below hB hb5))
        go_wp2
        go_ret
        exact ⟨ret_bool (by rw [F.out, HL.out, HM.out]), keep_below hbW hB5⟩
  · have F := Lib.hid (show Sp.gmatch p.data.toList s.data.toList = false by unfold Sp.gmatch; simp [hc])
    have e0 : (Sp.gcheck p.data.toList != 0) = true := by simpa using hc
    clear hc
    go_enter Tryd.func14, Tryd.ntmps14
    go_wp2_with fail
    refine (parts_calls s _ hsh).mono ?_
    rintro e w1 ⟨hb, ⟨_, rfl⟩ | ⟨g, cap, L, hl, _, rfl, hL, _⟩⟩
    all_goals
      go_wp2_with fail
      refine (gcheck_calls p _ (max_kept hsh hb) (by omega)).mono ?_
      rintro e w2 ⟨rfl, hb2⟩
      go_wp2
      go_ret
      exact ⟨ret_bool F.out.symm, keep_below hb hb2⟩
end Go.Proofs.YtbjdgiocehoaiaaDoor
