/- Walks: a digest's text goes in. -/
import Derived.Test.YtmlkachfahabnaaGreatDoorTA14
import Derived.Test.YtmlkachfahabnaaGreatDoorTA08
import Derived.Lib.AppendStr
import Derived.WalkSpells
namespace Go.Proofs.YtmlkachfahabnaaGreatDoor
open Go.RowKit
attribute [local go_sem] yUpon
/-- A digest that goes on, in memory: its words, what is left, how many bytes went in. -/
def sumC : List UInt32 → Option Addr → Nat → Nat → Nat → Array Value
  | [a, b, c, d, e, f, g, h], A, n, cap, N => #[.bool true, wordV a, wordV b, wordV c, wordV d, wordV e, wordV f, wordV g, wordV h, .slice A n cap, .int .u64 (N : Int)]
  | _, _, _, _, _ => #[]
/-- How much is left, as it lies in memory. -/
def leftAt (w : World) (g : Nat) : Nat := match w.cell? ⟨g, 9, none⟩ with | some (.slice _ n _) => n | _ => 0
def SumAt (w : World) (g : Nat) (h : List UInt32) (rest : Sp.Bs) (N : Nat) : Prop := ∃ A cap, isBlk w g 165 (sumC h A rest.length cap N) ∧ Cells w A (rest.map byteV) ∧ rest.length ≤ cap ∧ cap ≤ 9223372036854775807
theorem own_cap {w : World} {base n cap : Nat} {e : TypeId} {size : Nat} {A : Option Addr} {xs : List Value} (h : w.ownsRow base e size (.slice A n cap) n xs) : n ≤ cap ∧ cap ≤ 9223372036854775807 := by
  rcases h.2 with ⟨h1, h2⟩ | ⟨g, cap', cur, h1, _, _, h3, h4, _⟩
  · cases h1; omega
  · cases h1; unfold maxLen at h4; exact ⟨h3, by omega⟩
theorem own_off {w : World} {base n cap : Nat} {e : TypeId} {size : Nat} {A : Option Addr} {xs : List Value} (h : w.ownsRow base e size (.slice A n cap) n xs) : ∀ a, A = some a → base ≤ a.block := by
  rintro a rfl
  rcases h.2 with ⟨h1, _⟩ | ⟨g, cap', cur, h1, h2, _⟩
  · cases h1
  · cases h1; exact h2
theorem Cells.only {w w' : World} {g : Nat} {A : Option Addr} {cs : List Value} (h : Cells w A cs) (ha : ∀ a, A = some a → a.block ≠ g) (e : Only g w w') : Cells w' A cs := fun hn => by
  obtain ⟨b, o, hA, hc⟩ := h hn
  refine ⟨b, o, hA, fun i u hi => ?_⟩
  have h1 := hc i u hi
  have h2 : w'.heap[b]? = w.heap[b]? := e.block b (cell_lt h1) (ha _ hA)
  unfold World.cell? at h1 ⊢
  rw [h2]; exact h1
theorem KeysAt.only {w w' : World} {k g : Nat} (h : KeysAt w k) (hk : k ≠ g) (e : Only g w w') : KeysAt w' k := fun i hi => by
  have h1 := h i hi
  have h2 : w'.heap[k]? = w.heap[k]? := e.block k (cell_lt h1) hk
  unfold World.cell? at h1 ⊢
  rw [h2]; exact h1
theorem run_arrayAt {P : Program} {T e : TypeId} {n : Nat} (h : P.underlying T = some (.array n e)) (a : Addr) (len cap : Nat) (hn : n ≤ len) (w : World) : (Instr.arrayAt T (.slice (some a) len cap)).run P w = .ok (.pointer (some a)) w := by
  have : ¬ len < n := by omega
  simp [Instr.arrayAt, run_underlying h, this]
theorem leftAt_blk {w : World} {g : Nat} {t : TypeId} {cs : Array Value} {A : Option Addr} {n c : Nat} (h : isBlk w g t cs) (hc : cs[9]? = some (.slice A n c)) : leftAt w g = n := by
  unfold leftAt; rw [h.cell 9, hc]
theorem only_grown {w w' : World} (g : Nat) (h : w.grownBy w' none) : Only g w w' := ⟨h.os, h.tape, h.output, h.size, fun k hk _ => h.block k hk (by simp)⟩
theorem start_calls (w : World) : Calls Tryz.prog 157 #[] w fun e w' => e = .returned (.agg (wordsC Sp.start)) ∧ Ext w w' := by
  go_enter Tryz.func157, Tryz.ntmps157
  go_wp2
  refine bodyPost_ret (results_cell_row rfl _ _ w.heap.size 83 (wordsC Sp.start) (0, 0) _ rfl (heap_alloc_new _ _) Tryz.underlying83 rfl (by kernel_rfl)) rfl ?_
  exact ⟨rfl, Ext.alloc _ _⟩
set_option maxRecDepth 100000 in
set_option maxHeartbeats 2000000 in
theorem swrite_calls (g : Nat) (l : Sp.Bs) (w : World) (hl : l.length ≤ 4000000000) (K : KeysAt w 2)
    (hx : isBlk w g 165 #[.bool false, .int .u32 0, .int .u32 0, .int .u32 0, .int .u32 0, .int .u32 0, .int .u32 0, .int .u32 0, .int .u32 0, .slice none 0 0, .int .u64 0]) :
    Calls Tryz.prog 132 #[.pointer (some ⟨g, 0, none⟩), .string (strOf l)] w fun e w' => e = .returned (.tuple #[]) ∧ SumAt w' g (Sp.mixN (l.length / 64) Sp.start l) (l.drop (64 * (l.length / 64))) l.length ∧ Only g w w' := by
  have c0 := (hx.cell 0).trans rfl
  have sz : (strOf l).size = l.length := strOf_size _
  have ST := Lib.hid (start_calls w)
  obtain ⟨s1, s2, s3, s4, s5, s6, s7, s8, hs⟩ := len8 Sp.start rfl
  rw [hs, show wordsC [s1, s2, s3, s4, s5, s6, s7, s8] = #[wordV s1, wordV s2, wordV s3, wordV s4, wordV s5, wordV s6, wordV s7, wordV s8] from rfl] at ST
  have HX := Lib.hid hx
  have GW := Lib.hid hx.lt
  have KG := Lib.hid (show 2 ≠ g by
    rintro rfl
    have h1 := K 0 (by decide)
    rw [hx.cell 0] at h1
    cases h1)
  have HS := Lib.hid hs
  clear hx hs
  go_enter Tryz.func132, Tryz.ntmps132
  go_wp2_with fail
  refine ST.out.mono ?_
  rintro e w1 ⟨rfl, hb1⟩
  have B1 := Lib.hid hb1
  have z := HX.out.below hb1
  have f0 := (z.cell 0).trans rfl
  have fr0 := z.frozen 0
  clear hb1 c0
  have Z0 := Lib.hid (show isBlk (w1.setCell ⟨g, 0, none⟩ (.bool true)) g 165 #[.bool true, .int .u32 0, .int .u32 0, .int .u32 0, .int .u32 0, .int .u32 0, .int .u32 0, .int .u32 0, .int .u32 0, .slice none 0 0, .int .u64 0] from z.put 0 _ rfl)
  clear z
  obtain ⟨i0, hi, hz0, hz1, hz2⟩ := info_parts (show (Tryz.prog.info? 5).map (fun i => (i.zero, i.size, i.bytes)) = some (some (.int .u8 0), 1, 1) by kernel_rfl)
  have tok1 : True := trivial
  have n1 : IntKind.u64.wrap (l.length : Int) = (l.length : Int) := by rw [IntKind.wrap_u64]; omega
  go_wp2_with (first
    | (have _t := tok1; (with_reducible refine at_store (t := 83) rfl ?_); refine store_blk rfl _ _ _ rfl g 1 #[wordV s1, wordV s2, wordV s3, wordV s4, wordV s5, wordV s6, wordV s7, wordV s8] rfl rfl (cs' := #[.bool true, wordV s1, wordV s2, wordV s3, wordV s4, wordV s5, wordV s6, wordV s7, wordV s8, .slice none 0 0, .int .u64 0]) Z0.out ?h1 ?h2 ?h3 ?h4 ?_; (case h1 => simp); (case h2 => kernel_rfl); (case h3 => simp [Value.oneCell']); (case h4 => simp [putsA]); intro w2 hx2 ho2 hs2; have X2 := Lib.hid hx2; have O2 := Lib.hid ((Only.set g 0 _ w1).trans ho2); clear f0 fr0 hx2 ho2 hs2 _t tok1; have g9 := (X2.out.cell 9).trans rfl; have g10 := (X2.out.cell 10).trans rfl; have h9 := X2.out.frozen 9; have h10 := X2.out.frozen 10)
    | (at_builtin; refine Lib.wpList_append_own_string _ rfl _ _ 84 9 rfl w.heap.size 5 i0 Tryz.underlying84 Tryz.underlying9 hi hz0 hz1 hz2 (.slice none 0 0) 0 [] rfl ⟨rfl, .inl ⟨rfl, rfl⟩⟩ (strOf l) rfl ?c3 ?c4 ?c5 ?_; (case c3 => unfold maxLen; omega); (case c4 => omega); (case c5 => have := B1.out.size; have := O2.out.size; simp; omega); intro v3 w3 hown3 hgrow3 _; rw [Nat.zero_add, sz, List.nil_append, strCells_eq, strOf_data] at hown3; obtain ⟨A, cap, rfl, hcells⟩ := own_read hown3; have CAP := Lib.hid (own_cap hown3); have OFF := Lib.hid (fun a ha => Nat.ne_of_gt (Nat.lt_of_lt_of_le GW.out (own_off hown3 a ha))); have CE := Lib.hid hcells; have X3 := Lib.hid (show isBlk w3 g 165 #[.bool true, wordV s1, wordV s2, wordV s3, wordV s4, wordV s5, wordV s6, wordV s7, wordV s8, .slice none 0 0, .int .u64 (l.length : Int)] from (hgrow3.block g (X2.out.put 10 (.int .u64 (l.length : Int)) rfl).lt (by simp [Value.ownBlock])).trans (X2.out.put 10 (.int .u64 (l.length : Int)) rfl)); have O3 := Lib.hid (only_grown g hgrow3); clear hown3 hgrow3 hcells g9 g10 h9 h10; have i9 := (X3.out.cell 9).trans rfl; have i9' := X3.out.frozen 9))
  have KK := Lib.hid (((K.ext B1.out).only KG.out O2.out).only KG.out ((Only.set g 10 _ _).trans O3.out))
  go_loopw [37] (fun _ wr => ∃ i A cap, 64 * i ≤ l.length ∧ isBlk wr g 165 (sumC (Sp.mixN i Sp.start l) A (l.length - 64 * i) cap l.length) ∧ Cells wr A ((l.drop (64 * i)).map byteV) ∧ (∀ a, A = some a → a.block ≠ g) ∧ (l.length - 64 * i ≤ cap ∧ cap ≤ 9223372036854775807) ∧ Only g w3 wr) (fun _ wr => leftAt wr g)
  case atStart => exact ⟨0, A, cap, by omega, by rw [Sp.mixN, HS.out]; exact X3.out.put 9 _ rfl, Cells.only (by simpa using CE.out) OFF.out (Only.set _ _ _ _), OFF.out, by simpa using CAP.out, Only.set _ _ _ _⟩
  case round =>
    obtain ⟨i, A, cap, hi, hx, hc, hoff, hcap, ho⟩ := hrel
    obtain ⟨c1, c2, c3, c4, c5, c6, c7, c8, hm⟩ := len8 _ (Sp.mixN_len i Sp.start l rfl)
    rw [hm] at hx
    obtain ⟨n, hn⟩ : ∃ n, n = l.length - 64 * i := ⟨_, rfl⟩
    rw [← hn] at hx hcap
    have hx9 : wr.cell? ⟨g, 9, none⟩ = some (.slice A n cap) := (hx.cell 9).trans rfl
    by_cases h64 : 64 ≤ n
    · have hne : (l.drop (64 * i)).map byteV ≠ [] := by intro e; have := congrArg List.length e; simp at this; omega
      obtain ⟨ga, o, rfl, hcl⟩ := hc hne
      have b1 : decide ((64 : Int) ≤ (n : Int)) = true := by rw [decide_eq_true_iff]; omega
      have i64 : (64 : Int) ≤ (n : Int) := by omega
      obtain ⟨blk, hblk⟩ : ∃ blk, blk = (l.drop (64 * i)).take 64 := ⟨_, rfl⟩
      have bl : blk.length = 64 := by rw [hblk, List.length_take, List.length_drop]; omega
      have rng : ∀ W, Ext wr W → W.rangeAt ga o (blk.map byteV) := fun W e j v hj => by
        refine e.cell (hcl j v ?_)
        rw [hblk, List.map_take, List.getElem?_take] at hj
        split at hj
        · exact hj
        · cases hj
      obtain ⟨d1, d2, d3, d4, d5, d6, d7, d8, hd⟩ := len8 (Sp.mix [c1, c2, c3, c4, c5, c6, c7, c8] blk) (Sp.mix_len _ _ rfl)
      have MC := Lib.hid fun W (e : Ext wr W) => mix_calls [c1, c2, c3, c4, c5, c6, c7, c8] blk W rfl bl ((KK.out.only KG.out ho).ext e)
      rw [hd, show wordsC [c1, c2, c3, c4, c5, c6, c7, c8] = #[wordV c1, wordV c2, wordV c3, wordV c4, wordV c5, wordV c6, wordV c7, wordV c8] from rfl, show wordsC [d1, d2, d3, d4, d5, d6, d7, d8] = #[wordV d1, wordV d2, wordV d3, wordV d4, wordV d5, wordV d6, wordV d7, wordV d8] from rfl] at MC
      have HX := Lib.hid (show isBlk wr g 165 #[.bool true, wordV c1, wordV c2, wordV c3, wordV c4, wordV c5, wordV c6, wordV c7, wordV c8, .slice (some ⟨ga, o, none⟩) n cap, .int .u64 (l.length : Int)] from hx)
      have HM := Lib.hid (show Sp.mixN (i + 1) Sp.start l = [d1, d2, d3, d4, d5, d6, d7, d8] by rw [Sp.mixN_snoc, hm, ← hblk, hd])
      have RNG := Lib.hid rng
      have BL := Lib.hid bl
      have HCL := Lib.hid hcl
      have HO := Lib.hid ho
      have HN := Lib.hid hn
      clear hx hm hblk bl rng hcl ho hc hd hn hne
      go_wp2_with fail
      refine wp_region_det_tail (fun W => Ext wr W) 12 (by kernel_rfl) (by kernel_rfl) (Ext.refl _).drew ?_
      simp only [List.take_succ_cons, List.take_zero, List.drop_succ_cons, List.drop_zero]
      repeat (first
        | (refine det_step (fun K hK => ?_); (refine det_load_mid rfl 186 _ rfl ga o rfl (blk.map byteV) _ (fun W hS => RNG.out W hS) Tryz.underlying186 rfl (by rw [List.length_map, BL.out]; kernel_rfl) ?_); go_simp; refine hK _ ?_; clear hK K)
        | (refine det_step (fun K hK => ?_)
           apply Exists.intro
           refine ⟨Or.inl ⟨rfl, fun W hS => ?_⟩, ?_⟩
           · have hz : Ext wr W := hS; have z := HX.out.below hz; have f1 := (z.cell 1).trans rfl; have f2 := (z.cell 2).trans rfl; have f3 := (z.cell 3).trans rfl; have f4 := (z.cell 4).trans rfl; have f5 := (z.cell 5).trans rfl; have f6 := (z.cell 6).trans rfl; have f7 := (z.cell 7).trans rfl; have f8 := (z.cell 8).trans rfl; have f9 := (z.cell 9).trans rfl; have hap := run_arrayAt Tryz.underlying186 ⟨ga, o, none⟩ n cap h64 W
             go_simp
             first
             | exact rfl
             | exact ⟨rfl, hS⟩
             | (refine (MC.out W hz).mono ?_; rintro e w5 ⟨rfl, hb5⟩; exact ⟨rfl, hz.trans hb5⟩)
           go_simp
           refine hK _ ?_
           clear hK K)
        | (refine det_step (fun K hK => ?_); refine det_no' rfl ?_; go_simp; refine hK _ ?_; clear hK K))
      refine det_nil ?_
      intro W hS
      replace hS : Ext wr W := hS
      have HXW := Lib.hid (HX.out.below hS)
      have O4 := Lib.hid (HO.out.trans (Only.of_below g hS))
      have EW := Lib.hid hS
      clear hx9 hS
      by_cases hc64 : cap = 64
      · subst hc64
        obtain rfl : n = 64 := by omega
        go_wp2_with ((with_reducible refine at_store (t := 83) rfl ?_); refine store_blk rfl _ _ _ rfl g 1 #[wordV d1, wordV d2, wordV d3, wordV d4, wordV d5, wordV d6, wordV d7, wordV d8] rfl rfl (cs' := #[.bool true, wordV d1, wordV d2, wordV d3, wordV d4, wordV d5, wordV d6, wordV d7, wordV d8, .slice (some ⟨ga, o, none⟩) 64 64, .int .u64 (l.length : Int)]) HXW.out ?h5 ?h6 ?h7 ?h8 ?_; (case h5 => simp); (case h6 => kernel_rfl); (case h7 => simp [Value.oneCell']); (case h8 => simp [putsA]); intro w6 hx6 ho6 hs6; have X6 := Lib.hid hx6; have O6 := Lib.hid ho6; clear hx6 ho6 hs6; have g9 := (X6.out.cell 9).trans rfl; have h9 := X6.out.frozen 9)
        have e0 : l.length - 64 * (i + 1) = 0 := by have := HN.out; omega
        have hl9 := X6.out.put 9 (.slice (some ⟨ga, o, none⟩) 0 0) rfl
        refine ⟨⟨i + 1, some ⟨ga, o, none⟩, 0, by have := HN.out; omega, by rw [e0, HM.out]; exact hl9, ?_, hoff, by omega, O4.out.trans (O6.out.trans (Only.set _ _ _ _))⟩, ?_⟩
        · rw [List.drop_eq_nil_of_le (by omega)]; exact Cells.nil _ _
        · rw [leftAt_blk hl9 rfl, leftAt_blk HX.out rfl]; decide
      · have hc65 : ¬ 64 = cap := fun e => hc64 e.symm
        go_wp2_with ((with_reducible refine at_store (t := 83) rfl ?_); refine store_blk rfl _ _ _ rfl g 1 #[wordV d1, wordV d2, wordV d3, wordV d4, wordV d5, wordV d6, wordV d7, wordV d8] rfl rfl (cs' := #[.bool true, wordV d1, wordV d2, wordV d3, wordV d4, wordV d5, wordV d6, wordV d7, wordV d8, .slice (some ⟨ga, o, none⟩) n cap, .int .u64 (l.length : Int)]) HXW.out ?h9 ?ha ?hb ?hc ?_; (case h9 => simp); (case ha => kernel_rfl); (case hb => simp [Value.oneCell']); (case hc => simp [putsA]); intro w6 hx6 ho6 hs6; have X6 := Lib.hid hx6; have O6 := Lib.hid ho6; clear hx6 ho6 hs6; have g9 := (X6.out.cell 9).trans rfl; have h9 := X6.out.frozen 9)
        have e0 : l.length - 64 * (i + 1) = n - 64 := by have := HN.out; omega
        have hl9 := X6.out.put 9 (.slice (some ⟨ga, o + 64, none⟩) (n - 64) (cap - 64)) rfl
        have hoff' : ∀ a, some (⟨ga, o + 64, none⟩ : Addr) = some a → a.block ≠ g := by
          rintro a ha
          cases ha
          exact hoff ⟨ga, o, none⟩ rfl
        refine ⟨⟨i + 1, some ⟨ga, o + 64, none⟩, cap - 64, by have := HN.out; omega, by rw [e0, HM.out]; exact hl9, ?_, hoff', by omega, O4.out.trans (O6.out.trans (Only.set _ _ _ _))⟩, ?_⟩
        · have C0 : Cells wr (some ⟨ga, o + 64, none⟩) ((l.drop (64 * (i + 1))).map byteV) := fun _ => ⟨ga, o + 64, rfl, fun j u hj => by
            have := HCL.out (64 + j) u (by rw [← hj, List.getElem?_map, List.getElem?_map, List.getElem?_drop, List.getElem?_drop]; congr 2; omega)
            rwa [← Nat.add_assoc] at this⟩
          exact (C0.ext EW.out).only hoff' (O6.out.trans (Only.set _ _ _ _))
        · rw [leftAt_blk hl9 rfl, leftAt_blk HX.out rfl]; omega
    · have b1 : decide ((64 : Int) ≤ (n : Int)) = false := by rw [decide_eq_false_iff_not]; omega
      have HI := Lib.hid (show i = l.length / 64 by omega)
      have HX := Lib.hid hx
      have HC := Lib.hid hc
      have HN := Lib.hid hn
      clear hx hc hn
      go_wp2_with fail
      go_end0
      refine ⟨rfl, ⟨A, cap, ?_, ?_, ?_, hcap.2⟩, (Only.of_below g B1.out).trans (O2.out.trans ((Only.set g 10 _ _).trans (O3.out.trans ho)))⟩
      · rw [List.length_drop, ← HI.out, ← HN.out, hm]; exact HX.out
      · rw [← HI.out]; exact HC.out
      · rw [List.length_drop, ← HI.out, ← HN.out]; exact hcap.1
end Go.Proofs.YtmlkachfahabnaaGreatDoor
