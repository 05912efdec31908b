/- Walks: what a digest comes to. Walks: patterns are checked. Walks: names and paths, the program's and the reference's. Walks: names and paths, the reference's. -/
import Derived.IntWalk
import Derived.BigRegion
import Derived.Test.YtmlfnidckfeebaaGreatDoorRF007
namespace Go.Proofs.YtmlfnidckfeebaaGreatDoor
open Go.RowKit
attribute [local go_sem] yUpon
theorem appU8 : AppStat Tryz.prog 172 5 1 1 := by
  refine ⟨Tryz.underlying172, by decide, by decide, ?_⟩
  obtain ⟨i0, hi, hz0, hz1, hz2⟩ := info_parts (show (Tryz.prog.info? 5).map (fun i => (i.zero, i.size, i.bytes)) = some (some (.int .u8 0), 1, 1) by kernel_rfl)
  exact ⟨i0, _, hi, hz0, hz1, hz2, rfl⟩
theorem bytes_one (l : Sp.Bs) : ∀ u ∈ l.map byteV, u.oneCell' = true := by
  intro u hu
  obtain ⟨c, _, rfl⟩ := List.mem_map.1 hu
  rfl
def lenV : Value → Nat
  | .slice _ n _ => n
  | _ => 0
abbrev OwnB (w : World) (B : Nat) (v : Value) (l : Sp.Bs) : Prop := w.ownsRow B 5 1 v l.length (l.map byteV)
theorem OwnB.form {w : World} {B : Nat} {v : Value} {l : Sp.Bs} (h : OwnB w B v l) : ∃ A cap, v = .slice A l.length cap ∧ OwnB w B (.slice A l.length cap) l := by
  obtain ⟨A, cap, rfl, _⟩ := own_read h
  exact ⟨A, cap, rfl, h⟩
theorem own_empty (w : World) (B : Nat) (t : TypeId) (h : B ≤ w.heap.size) : (w.alloc (.cells #[] t)).ownsRow B t 1 (.slice (some ⟨w.heap.size, 0, none⟩) 0 0) 0 [] :=
  World.ownsRow_lit w #[] 0 h (by unfold maxLen; omega) rfl
theorem be8_take (M k : Nat) (hk : k < 8) : (Sp.be8 M).take (k + 1) = (Sp.be8 M).take k ++ [UInt8.ofNat (M / 2 ^ (56 - 8 * k))] := by
  have hl : k < (Sp.be8 M).length := by rw [Sp.be8_len]; exact hk
  rw [List.take_succ_eq_append_getElem hl]
  simp [Sp.be8]
theorem index8 (c1 c2 c3 c4 c5 c6 c7 c8 : UInt32) (k : Nat) (hk : k < 8) (w : World) : (Instr.index 272 (.agg #[wordV c1, wordV c2, wordV c3, wordV c4, wordV c5, wordV c6, wordV c7, wordV c8]) (.int .i64 k)).run Tryz.prog w = .ok (wordV ([c1, c2, c3, c4, c5, c6, c7, c8].getD k 0)) w := by
  rcases k with _ | _ | _ | _ | _ | _ | _ | _ | k
  case succ.succ.succ.succ.succ.succ.succ.succ => omega
  all_goals kernel_rfl
theorem digC_set (l : Sp.Bs) (i : Nat) (x : UInt8) : (digC l).setIfInBounds i (.int .u8 x.toNat) = digC (l.set i x) := by
  apply Array.ext'
  simp [digC, List.map_set, byteV]
theorem fill4 (l : Sp.Bs) (a b c d : UInt8) (n : Nat) : ((((l ++ List.replicate (n + 4) 0).set l.length a).set (l.length + 1) b).set (l.length + 2) c).set (l.length + 3) d = (l ++ [a, b, c, d]) ++ List.replicate n 0 := by
  rw [show List.replicate (n + 4) (0 : UInt8) = 0 :: 0 :: 0 :: 0 :: List.replicate n 0 from rfl]
  induction l with
  | nil => rfl
  | cons x r ih =>
    rw [show (x :: r).length + 1 = (r.length + 1) + 1 from rfl, show (x :: r).length + 2 = (r.length + 2) + 1 from rfl, show (x :: r).length + 3 = (r.length + 3) + 1 from rfl, show (x :: r).length = r.length + 1 from rfl]
    simp only [List.cons_append, List.set_cons_succ]
    rw [ih]
theorem digest_snoc (h : List UInt32) (x : UInt32) : Sp.digest (h ++ [x]) = Sp.digest h ++ [UInt8.ofNat (x.toNat / 16777216), UInt8.ofNat (x.toNat / 65536), UInt8.ofNat (x.toNat / 256), UInt8.ofNat x.toNat] := by
  unfold Sp.digest; rw [List.flatMap_append]; rfl
theorem byte_of (x n : Nat) : ((UInt8.ofNat (x / n)).toNat : Int) = (x : Int) / (n : Int) % 256 := by
  rw [UInt8.toNat_ofNat', Int.natCast_emod, Int.natCast_ediv]
  rfl
abbrev zero32 : Array Value := digC (List.replicate 32 0)
set_option maxRecDepth 100000 in
set_option maxHeartbeats 4000000 in
theorem svalue_calls (g : Nat) (h : List UInt32) (rest : Sp.Bs) (N : Nat) (w : World) (hh : h.length = 8) (hr : rest.length ≤ 1000) (hN : N ≤ 100000000000) (K : KeysAt w 2) (hx : SumAt w g h rest N) :
    Calls Tryz.prog 291 #[.pointer (some ⟨g, 0, none⟩)] w fun e w' => e = .returned (.agg (digC (Sp.digest (Sp.mixN ((rest ++ Sp.padding rest.length N).length / 64) h (rest ++ Sp.padding rest.length N))))) ∧ Ext w w' := by
  obtain ⟨a1, a2, a3, a4, a5, a6, a7, a8, rfl⟩ := len8 h hh
  obtain ⟨A, cap, hb, hc, hcap⟩ := hx
  replace hb : isBlk w g 325 #[.bool true, wordV a1, wordV a2, wordV a3, wordV a4, wordV a5, wordV a6, wordV a7, wordV a8, .slice A rest.length cap, .int .u64 (N : Int)] := hb
  have HB := Lib.hid hb
  have HC := Lib.hid hc
  clear hb hc
  have tok2 : True := trivial
  have tok3 : True := trivial
  have tok4 : True := trivial
  have tok5 : True := trivial
  go_enter Tryz.func291, Tryz.ntmps291
  go_wp2_with (first
    | (have _t2 := tok2; ((with_reducible refine at_alloc (t := 36) rfl ?_); refine box_new rfl (cs := zero32) (t := 36) (by first | (go_simp; done) | (go_simp; rfl)) ?_; intro g2 w2 hg2 hx2 hb2; have H2 := Lib.hid hx2; have B2 := Lib.hid hb2; have GG2 := Lib.hid hg2; clear tok2 _t2 hx2 hb2 hg2))
    | (have _t3 := tok3; ((with_reducible refine at_alloc (t := 36) rfl ?_); refine box_new rfl (cs := zero32) (t := 36) (by first | (go_simp; done) | (go_simp; rfl)) ?_; intro g3 w3 hg3 hx3 hb3; have H3 := Lib.hid hx3; have B3 := Lib.hid (Ext.trans B2.out hb3); have E23 := Lib.hid hb3; have GG3 := Lib.hid hg3; clear tok3 _t3 hx3 hb3 hg3; have z := HB.out.below B3.out; have f0 := (z.cell 0).trans rfl; have f1 := (z.cell 1).trans rfl; have f2 := (z.cell 2).trans rfl; have f3 := (z.cell 3).trans rfl; have f4 := (z.cell 4).trans rfl; have f5 := (z.cell 5).trans rfl; have f6 := (z.cell 6).trans rfl; have f7 := (z.cell 7).trans rfl; have f8 := (z.cell 8).trans rfl; have f9 := (z.cell 9).trans rfl; have f10 := (z.cell 10).trans rfl; have gl := z.lt; have gl' := Nat.ne_of_lt gl; clear z))
    | (have _t4 := tok4; at_builtin; have B4 := Lib.hid (show w3.heap.size + 1 ≤ (w3.alloc (.cells #[wordV a1, wordV a2, wordV a3, wordV a4, wordV a5, wordV a6, wordV a7, wordV a8] 272)).heap.size by simp); refine app_cells appU8 rfl _ _ rfl (w3.heap.size + 1) _ 0 [] rfl (by have := own_empty _ _ 5 B4.out; rw [World.size_alloc] at this; exact this) A rest.length cap (rest.map byteV) rfl (by simp) ((HC.out.ext B3.out).ext ((Ext.alloc _ _).trans (Ext.alloc _ _))) (bytes_one _) (by omega) (by simp) ?_; intro v4 w4 hown4 hgr4 hb4; rw [Nat.zero_add, List.nil_append] at hown4; obtain ⟨A4, cap4, rfl, hO4⟩ := OwnB.form hown4; have O4 := Lib.hid hO4; have BB4 := Lib.hid hb4; clear hown4 hgr4 hb4 hO4 f0 f1 f2 f3 f4 f5 f6 f7 f8 f9 f10 gl gl' tok4 _t4)
    | (have _t5 := tok5; at_builtin; refine app_new appU8 rfl _ _ rfl (w3.heap.size + 1) _ rest.length _ rfl O4.out #[.int .u8 128] 5 1 rfl rfl (by intro u hu; simp at hu; subst hu; rfl) (by decide) (by omega) (by have := BB4.out.size; simp at this; omega) ?_; intro g5 cap5 w5 hown5 hgr5 hb5 hbg5; have O5 := Lib.hid hown5; have BB5 := Lib.hid (BB4.out.trans hb5); clear hown5 hgr5 hb5 hbg5 tok5 _t5))
  have E35 := Lib.hid (((Ext.alloc _ _).trans (Ext.alloc _ _)).from' (BB5.out.mono (Nat.le_succ w3.heap.size)))
  have X4 := Lib.hid (show isBlk w5 w3.heap.size 272 #[wordV a1, wordV a2, wordV a3, wordV a4, wordV a5, wordV a6, wordV a7, wordV a8] from
    (BB5.out.block w3.heap.size (Nat.lt_succ_self _)).trans ((box_at w3 _ _).below (Ext.alloc _ _)))
  obtain ⟨B, hBB⟩ : ∃ B, B = w3.heap.size + 1 := ⟨_, rfl⟩
  obtain ⟨r, hrr⟩ : ∃ r, r = rest.length := ⟨_, rfl⟩
  rw [← hBB] at O5 BB5
  rw [← hrr] at O5 hr ⊢
  have HR := Lib.hid hrr
  have HBB := Lib.hid hBB
  have F5 := Lib.hid (show w5.ownsRow B 5 1 (.slice (some ⟨g5, 0, none⟩) (r + 1) cap5) (r + 1 + 0) ((rest ++ 128 :: List.replicate 0 0).map byteV) by
    rw [List.map_append]; exact O5.out)
  obtain ⟨Z, hZ⟩ : ∃ Z, Z = (119 - r % 64) % 64 := ⟨_, rfl⟩
  have HZ := Lib.hid hZ
  clear hrr hBB O5 hZ
  go_loopw [5] (fun v5 wr => ∃ z A cap, z ≤ Z ∧ v5 = .slice A (r + 1 + z) cap ∧ wr.ownsRow B 5 1 (.slice A (r + 1 + z) cap) (r + 1 + z) ((rest ++ 128 :: List.replicate z 0).map byteV) ∧ Below B w5 wr) (fun v5 _ => r + 65 - lenV v5)
  case atStart => exact ⟨0, _, cap5, Nat.zero_le _, rfl, F5.out, Below.refl _ _⟩
  case round =>
    obtain ⟨z, A6, cap6, hz, rfl, hown, hb⟩ := hrel
    by_cases hlt : z < Z
    · obtain ⟨n, hn⟩ : ∃ n, n = r + 1 + z := ⟨_, rfl⟩
      have hn64 : n ≤ r + 64 := by have := HZ.out; omega
      have b1 : ((n : Int) % 64 == 56) = false := by rw [beq_eq_false_iff_ne]; have := HZ.out; omega
      have b2 : ((n : Int) % 64 != 56) = true := by rw [bne_iff_ne]; have := HZ.out; omega
      rw [← hn] at hown ⊢
      have HN := Lib.hid hn
      have HO := Lib.hid hown
      have HB6 := Lib.hid hb
      clear hn hown hb
      go_wp2_with (at_builtin; refine app_new appU8 rfl _ _ rfl B _ n _ rfl HO.out #[.int .u8 0] 5 1 rfl rfl (by intro u hu; simp at hu; subst hu; rfl) (by decide) (by omega) (by have := HB6.out.size; have := BB5.out.size; have := HBB.out; simp at *; omega) ?_; intro g7 cap7 w7 hown7 hgr7 hb7 hbg7; have O7 := Lib.hid hown7; have B7 := Lib.hid (HB6.out.trans hb7); clear hown7 hgr7 hb7 hbg7)
      go_roundw
      case rel =>
        refine ⟨z + 1, _, cap7, by omega, by rw [HN.out]; rfl, ?_, B7.out⟩
        have := O7.out
        rw [HN.out] at this
        rw [List.replicate_succ', ← List.cons_append, ← List.append_assoc, List.map_append]
        exact this
      case measure => simp [lenV]; have := HN.out; omega
    · obtain rfl : z = Z := by omega
      obtain ⟨n, hn⟩ : ∃ n, n = r + 1 + z := ⟨_, rfl⟩
      have b1 : ((n : Int) % 64 == 56) = true := by rw [beq_iff_eq]; have := HZ.out; omega
      have b2 : ((n : Int) % 64 != 56) = false := by rw [bne_eq_false_iff_eq]; have := HZ.out; omega
      have hn64 : n ≤ 1100 := by have := HZ.out; omega
      obtain ⟨p0, hp0⟩ : ∃ p0 : Sp.Bs, p0 = rest ++ 128 :: List.replicate z 0 := ⟨_, rfl⟩
      rw [← hp0] at hown
      rw [← hn] at hown ⊢
      have HN := Lib.hid hn
      have HP0 := Lib.hid hp0
      have HO := Lib.hid (show wr.ownsRow B 5 1 (.slice A6 n cap6) (n + 0) ((p0 ++ (Sp.be8 (N * 8)).take 0).map byteV) by rw [List.take_zero, List.append_nil]; exact hown)
      have HB6 := Lib.hid hb
      have y10 := Lib.hid (show w5.cell? ⟨g, 10, none⟩ = some (.int .u64 (N : Int)) from E35.out.cell (((HB.out.below B3.out).cell 10).trans rfl))
      have GB := Lib.hid (show g < B by have := (HB.out.below B3.out).lt; have := HBB.out; omega)
      clear hn hown hb hp0
      go_wp2_with fail
      go_loopw [5, 38] (fun v5 v38 wr => ∃ k A cap, k ≤ 8 ∧ v38 = .int .i64 (k : Nat) ∧ v5 = .slice A (n + k) cap ∧ wr.ownsRow B 5 1 (.slice A (n + k) cap) (n + k) ((p0 ++ (Sp.be8 (N * 8)).take k).map byteV) ∧ Below B w5 wr) (fun _ v38 _ => 8 - (intOf v38).toNat)
      case atStart => exact ⟨0, A6, cap6, by decide, rfl, rfl, HO.out, HB6.out⟩
      case round =>
        obtain ⟨k, A7, cap7, hk, rfl, rfl, hown, hb⟩ := hrel
        by_cases hlt : k < 8
        · have c10 : wr.cell? ⟨g, 10, none⟩ = some (.int .u64 (N : Int)) := (hb.cell (p := ⟨g, 10, none⟩) GB.out).trans y10.out
          obtain ⟨m, hm⟩ : ∃ m, m = n + k := ⟨_, rfl⟩
          obtain ⟨M, hM⟩ : ∃ M, M = N * 8 := ⟨_, rfl⟩
          obtain ⟨k8, hk8⟩ : ∃ k8, k8 = 8 * k := ⟨_, rfl⟩
          obtain ⟨e, he⟩ : ∃ e, e = 56 - k8 := ⟨_, rfl⟩
          have e0 : (N : Int) * 8 = (M : Int) := by omega
          have e1 : 8 * (k : Int) = (k8 : Int) := by omega
          have e2 : 56 - (k8 : Int) = (e : Int) := by omega
          have e3 : min e 64 = e := by omega
          have w0 : IntKind.u64.wrap (M : Int) = (M : Int) := by rw [IntKind.wrap_u64]; omega
          have w0' : IntKind.u64.wrap ((N : Int) * 8) = (M : Int) := by rw [IntKind.wrap_u64]; omega
          obtain ⟨c, hc⟩ : ∃ c, c = UInt8.ofNat (M / 2 ^ e) := ⟨_, rfl⟩
          have e4 : (M : Int) / 2 ^ e % 256 = (c.toNat : Int) := by
            rw [hc, UInt8.toNat_ofNat']
            norm_cast
          have TK := Lib.hid (show (Sp.be8 M).take (k + 1) = (Sp.be8 M).take k ++ [c] by rw [be8_take M k hlt, hc, he, hk8])
          rw [← hm, ← hM] at hown
          rw [← hm]
          have HO := Lib.hid hown
          have HBq := Lib.hid hb
          have HM := Lib.hid hm
          have HMM := Lib.hid hM
          clear hown hb hm hM he hk8 hc
          go_wp2_with (at_builtin; refine app_new appU8 rfl _ _ rfl B _ m _ rfl HO.out #[.int .u8 c.toNat] 5 1 rfl rfl (by intro u hu; simp at hu; subst hu; rfl) (by decide) (by have := HM.out; omega) (by have := HBq.out.size; have := BB5.out.size; have := HBB.out; simp at *; omega) ?_; intro g7 cap8 w7 hown7 hgr7 hb7 hbg7; have O7 := Lib.hid hown7; have B7 := Lib.hid (HBq.out.trans hb7); clear hown7 hgr7 hb7 hbg7)
          go_roundw
          case rel =>
            refine ⟨k + 1, _, cap8, by omega, by go_num, by rw [HM.out]; rfl, ?_, B7.out⟩
            have := O7.out
            rw [HM.out] at this
            rw [← HMM.out, TK.out, ← List.append_assoc, List.map_append]
            exact this
          case measure => simp [intOf]; omega
        · obtain rfl : k = 8 := by omega
          rw [show ((8 : Nat) : Int) = 8 from rfl]
          obtain ⟨p, hp⟩ : ∃ p, p = p0 ++ Sp.be8 (N * 8) := ⟨_, rfl⟩
          obtain ⟨L, hL⟩ : ∃ L, L = n + 8 := ⟨_, rfl⟩
          rw [List.take_of_length_le (by rw [Sp.be8_len]; exact Nat.le_refl _), ← hp, ← hL] at hown
          rw [← hL]
          have PP := Lib.hid (show rest ++ Sp.padding rest.length N = p by
            rw [hp, HP0.out]; unfold Sp.padding; rw [← HR.out, ← HZ.out]; simp)
          have LP := Lib.hid (show p.length = L by have := own_len hown; simpa using this)
          have L64 := Lib.hid (show L % 64 = 0 by have := HN.out; have := HZ.out; omega)
          obtain ⟨g4, hg4⟩ : ∃ g4, g4 = w3.heap.size := ⟨_, rfl⟩
          rw [← hg4] at X4 ⊢
          have G4B := Lib.hid (show g4 < B by have := HBB.out; omega)
          have XW := Lib.hid ((hb.block g4 G4B.out).trans X4.out)
          obtain ⟨A8, hA8⟩ : ∃ A8 : Option Addr, A8 = A7 := ⟨_, rfl⟩
          have C7 := Lib.hid (show Cells wr A7 (p.map byteV) by
            obtain ⟨A9, cap9, he, hce⟩ := own_read hown
            cases he; exact hce)
          have OFF := Lib.hid (own_off hown)
          have CAP := Lib.hid (own_cap hown)
          obtain ⟨wB, hwB⟩ : ∃ wB, wB = wr := ⟨_, rfl⟩
          have EB := Lib.hid (show Ext w wB by
            rw [hwB]
            exact (B3.out.trans E35.out).from' (hb.mono (by have := B3.out.size; have := HBB.out; omega)))
          have KB := Lib.hid (K.ext EB.out)
          have GK := Lib.hid (show 2 ≠ g4 by have := cell_lt (K 0 (by decide)); have := B3.out.size; omega)
          have HG4 := Lib.hid hg4
          have SZB := Lib.hid (show B ≤ wB.heap.size by rw [hwB]; have := hb.size; have := E35.out.size; have := BB5.out.size; have := HBB.out; simp at *; omega)
          have H3B := Lib.hid (show isBlk wB g3 36 zero32 by
            rw [hwB]
            exact (hb.block g3 (by have := H3.out.lt; have := HBB.out; omega)).trans (H3.out.below E35.out))
          have H2B := Lib.hid (show isBlk wB g2 36 zero32 by
            rw [hwB]
            exact (hb.block g2 (by have := H2.out.lt; have := GG3.out; have := H3.out.lt; have := HBB.out; omega)).trans ((H2.out.below E23.out).below E35.out))
          rw [← hwB] at XW C7
          clear hown hb hp hL hg4 hA8
          subst hwB
          go_wp2_with fail
          go_loopw [5] (fun v5 wr => ∃ i A cap, 64 * i ≤ L ∧ v5 = .slice A (L - 64 * i) cap ∧ Cells wr A ((p.drop (64 * i)).map byteV) ∧ (∀ a, A = some a → B ≤ a.block) ∧ (L - 64 * i ≤ cap ∧ cap ≤ 9223372036854775807) ∧ isBlk wr g4 272 (wordsC (Sp.mixN i [a1, a2, a3, a4, a5, a6, a7, a8] p)) ∧ Only g4 wB wr) (fun v5 _ => lenV v5)
          case atStart => exact ⟨0, A7, cap7, by omega, rfl, by simpa using C7.out, OFF.out, by simpa using CAP.out, XW.out, Only.refl _ _⟩
          case round =>
            obtain ⟨i, A9, cap9, hi, rfl, hc, hoff, hcap, hx, ho⟩ := hrel
            obtain ⟨c1, c2, c3, c4, c5, c6, c7, c8, hm⟩ := len8 _ (Sp.mixN_len i [a1, a2, a3, a4, a5, a6, a7, a8] p rfl)
            rw [hm] at hx
            replace hx : isBlk wr g4 272 #[wordV c1, wordV c2, wordV c3, wordV c4, wordV c5, wordV c6, wordV c7, wordV c8] := hx
            obtain ⟨m, hmm⟩ : ∃ m, m = L - 64 * i := ⟨_, rfl⟩
            rw [← hmm] at hcap ⊢
            by_cases h64 : 0 < m
            · have h64' : 64 ≤ m := by have := L64.out; omega
              have hne : (p.drop (64 * i)).map byteV ≠ [] := by intro e; have hlp := LP.out; have := congrArg List.length e; simp at this; omega
              obtain ⟨ga, o, rfl, hcl⟩ := hc hne
              have b3 : decide (0 < m) = true := decide_eq_true h64
              have i64 : (64 : Int) ≤ (m : Int) := by omega
              obtain ⟨blk, hblk⟩ : ∃ blk, blk = (p.drop (64 * i)).take 64 := ⟨_, rfl⟩
              have bl : blk.length = 64 := by have := LP.out; rw [hblk, List.length_take, List.length_drop]; omega
              have rng : ∀ W, Ext wr W → W.rangeAt ga o (blk.map byteV) := fun W e j v hj => by
                refine e.cell (hcl j v ?_)
                rw [hblk, List.map_take, List.getElem?_take] at hj
                split at hj
                · exact hj
                · cases hj
              obtain ⟨d1, d2, d3, d4, d5, d6, d7, d8, hd⟩ := len8 (Sp.mix [c1, c2, c3, c4, c5, c6, c7, c8] blk) (Sp.mix_len _ _ rfl)
              have MC := Lib.hid fun W (e : Ext wr W) => mix_calls [c1, c2, c3, c4, c5, c6, c7, c8] blk W rfl bl ((KB.out.only GK.out ho).ext e)
              rw [hd, show wordsC [c1, c2, c3, c4, c5, c6, c7, c8] = #[wordV c1, wordV c2, wordV c3, wordV c4, wordV c5, wordV c6, wordV c7, wordV c8] from rfl, show wordsC [d1, d2, d3, d4, d5, d6, d7, d8] = #[wordV d1, wordV d2, wordV d3, wordV d4, wordV d5, wordV d6, wordV d7, wordV d8] from rfl] at MC
              have HX := Lib.hid hx
              have HM2 := Lib.hid (show Sp.mixN (i + 1) [a1, a2, a3, a4, a5, a6, a7, a8] p = [d1, d2, d3, d4, d5, d6, d7, d8] by rw [Sp.mixN_snoc, hm, ← hblk, hd])
              have RNG := Lib.hid rng
              have BL := Lib.hid bl
              have HCL := Lib.hid hcl
              have HO := Lib.hid ho
              have HMM := Lib.hid hmm
              clear hx hm hblk bl rng hcl ho hc hd hmm hne
              go_wp2_with fail
              refine wp_region_det_tail (fun W => Ext wr W) 5 (by kernel_rfl) (by kernel_rfl) (Ext.refl _).drew ?_
              simp only [List.take_succ_cons, List.take_zero, List.drop_succ_cons, List.drop_zero]
              repeat (first
                | (refine det_step (fun K hK => ?_); (refine det_load_mid rfl 346 _ rfl ga o rfl (blk.map byteV) _ (fun W hS => RNG.out W hS) Tryz.underlying346 rfl (by rw [List.length_map, BL.out]; kernel_rfl) ?_); go_simp; refine hK _ ?_; clear hK K)
                | (refine det_step (fun K hK => ?_)
                   apply Exists.intro
                   refine ⟨Or.inl ⟨rfl, fun W hS => ?_⟩, ?_⟩
                   · have hz : Ext wr W := hS; have z := HX.out.below hz; have f0 := (z.cell 0).trans rfl; have f1 := (z.cell 1).trans rfl; have f2 := (z.cell 2).trans rfl; have f3 := (z.cell 3).trans rfl; have f4 := (z.cell 4).trans rfl; have f5 := (z.cell 5).trans rfl; have f6 := (z.cell 6).trans rfl; have f7 := (z.cell 7).trans rfl; have hap := run_arrayAt Tryz.underlying346 ⟨ga, o, none⟩ m cap9 h64' W
                     go_simp
                     first
                     | exact rfl
                     | exact ⟨rfl, hS⟩
                     | (refine (MC.out W hz).mono ?_; rintro e w5 ⟨rfl, hb5⟩; exact ⟨rfl, hz.trans hb5⟩)
                   go_simp
                   refine hK _ ?_
                   clear hK K)
                | (refine det_step (fun K hK => ?_); refine det_no' rfl ?_; go_simp; refine hK _ ?_; clear hK K))
              refine det_nil ?_
              intro W hS
              replace hS : Ext wr W := hS
              have HXW := Lib.hid (HX.out.below hS)
              have O4' := Lib.hid (HO.out.trans (Only.of_below g4 hS))
              have EW := Lib.hid hS
              clear hS
              have hoffg : ∀ a, some (⟨ga, o, none⟩ : Addr) = some a → a.block ≠ g4 := fun a ha => by have := hoff a ha; have := G4B.out; omega
              by_cases hc64 : cap9 = 64
              · subst hc64
                obtain rfl : m = 64 := by omega
                go_wp2_with ((with_reducible refine at_store (t := 272) rfl ?_); refine wpList_store_row rfl _ _ _ rfl g4 _ rfl rfl 272 _ HXW.out (by kernel_rfl) rfl (by simp [Value.oneCell']) ?_)
                have e0 : L - 64 * (i + 1) = 0 := by have := HMM.out; omega
                refine ⟨⟨i + 1, some ⟨ga, o, none⟩, 0, by have := HMM.out; omega, by rw [e0], ?_, hoff, by omega, by rw [HM2.out]; exact setRow_heap _ _ _ _ _ _ HXW.out, O4'.out.trans (Only.setRow _ _ _)⟩, by simp [lenV]⟩
                rw [List.drop_eq_nil_of_le (by have := LP.out; omega)]; exact Cells.nil _ _
              · have hc65 : ¬ 64 = cap9 := fun e => hc64 e.symm
                go_wp2_with ((with_reducible refine at_store (t := 272) rfl ?_); refine wpList_store_row rfl _ _ _ rfl g4 _ rfl rfl 272 _ HXW.out (by kernel_rfl) rfl (by simp [Value.oneCell']) ?_)
                have e0 : L - 64 * (i + 1) = m - 64 := by have := HMM.out; omega
                have hoff' : ∀ a, some (⟨ga, o + 64, none⟩ : Addr) = some a → B ≤ a.block := by
                  rintro a ha
                  cases ha
                  exact hoff ⟨ga, o, none⟩ rfl
                refine ⟨⟨i + 1, some ⟨ga, o + 64, none⟩, cap9 - 64, by have := HMM.out; omega, by rw [e0], ?_, hoff', by omega, by rw [HM2.out]; exact setRow_heap _ _ _ _ _ _ HXW.out, O4'.out.trans (Only.setRow _ _ _)⟩, by simp [lenV]; omega⟩
                have C0 : Cells wr (some ⟨ga, o + 64, none⟩) ((p.drop (64 * (i + 1))).map byteV) := fun _ => ⟨ga, o + 64, rfl, fun j u hj => by
                  have := HCL.out (64 + j) u (by rw [← hj, List.getElem?_map, List.getElem?_map, List.getElem?_drop, List.getElem?_drop]; congr 2; omega)
                  rwa [← Nat.add_assoc] at this⟩
                exact (C0.ext EW.out).only (fun a ha => by have := hoff' a ha; have := G4B.out; omega) (Only.setRow _ _ _)
            · obtain rfl : m = 0 := by omega
              have FH := Lib.hid (show Sp.mixN ((rest ++ Sp.padding rest.length N).length / 64) [a1, a2, a3, a4, a5, a6, a7, a8] (rest ++ Sp.padding rest.length N) = [c1, c2, c3, c4, c5, c6, c7, c8] by
                rw [PP.out, LP.out, show L / 64 = i by omega, hm])
              have f0 := (hx.cell 0).trans rfl
              have f1 := (hx.cell 1).trans rfl
              have f2 := (hx.cell 2).trans rfl
              have f3 := (hx.cell 3).trans rfl
              have f4 := (hx.cell 4).trans rfl
              have f5 := (hx.cell 5).trans rfl
              have f6 := (hx.cell 6).trans rfl
              have f7 := (hx.cell 7).trans rfl
              have H3w := Lib.hid (ho.blk H3B.out (show g3 ≠ g4 by have := H3.out.lt; have := HG4.out; omega))
              have H2w := Lib.hid (ho.blk H2B.out (show g2 ≠ g4 by have := (H2.out.below E23.out).lt; have := HG4.out; omega))
              have EQ := Lib.hid (EB.out.from' (ho.below (show w.heap.size ≤ g4 by have := B3.out.size; have := HG4.out; omega) EB.out.size))
              have b0 : decide (0 < 0) = false := by decide
              have G23 := Lib.hid (show g2 ≠ g3 by have := H2.out.lt; have := GG3.out; omega)
              clear hx ho hmm hm hc
              go_wp2_with fail
              obtain ⟨wC, hwC⟩ : ∃ wC, wC = wr := ⟨_, rfl⟩
              rw [← hwC] at H3w H2w EQ ⊢
              have GW3 := Lib.hid (show w.heap.size ≤ g3 by have := B2.out.size; have := GG3.out; omega)
              clear f0 f1 f2 f3 f4 f5 f6 f7 hwC
              go_loopw [66] (fun v66 wr => ∃ k : Nat, k ≤ 8 ∧ v66 = .int .i64 k ∧ isBlk wr g3 36 (digC (Sp.digest ([c1, c2, c3, c4, c5, c6, c7, c8].take k) ++ List.replicate (32 - 4 * k) 0)) ∧ Only g3 wC wr) (fun v66 _ => 8 - (intOf v66).toNat)
              case atStart => exact ⟨0, by decide, rfl, H3w.out, Only.refl _ _⟩
              case round =>
                obtain ⟨k, hk, rfl, hx, ho⟩ := hrel
                by_cases hlt : k < 8
                · have hidx := index8 c1 c2 c3 c4 c5 c6 c7 c8 k hlt
                  have hlk : k < ([c1, c2, c3, c4, c5, c6, c7, c8] : List UInt32).length := hlt
                  have dl : (Sp.digest ([c1, c2, c3, c4, c5, c6, c7, c8].take k)).length = 4 * k := by
                    rw [Sp.digest_len, List.length_take, Nat.min_eq_left (Nat.le_of_lt hlk)]; omega
                  have tk := List.take_succ_eq_append_getElem hlk
                  obtain ⟨x, hxx⟩ : ∃ x, x = [c1, c2, c3, c4, c5, c6, c7, c8].getD k 0 := ⟨_, rfl⟩
                  have hx2 : [c1, c2, c3, c4, c5, c6, c7, c8][k] = x := by rw [hxx, List.getD_eq_getElem?_getD, List.getElem?_eq_getElem hlk]; rfl
                  rw [hx2] at tk
                  rw [← hxx] at hidx
                  obtain ⟨m, hm⟩ : ∃ m, m = 4 * k := ⟨_, rfl⟩
                  obtain ⟨m1, hm1⟩ : ∃ m1, m1 = m + 1 := ⟨_, rfl⟩
                  obtain ⟨m2, hm2⟩ : ∃ m2, m2 = m + 2 := ⟨_, rfl⟩
                  obtain ⟨m3, hm3⟩ : ∃ m3, m3 = m + 3 := ⟨_, rfl⟩
                  obtain ⟨y0, hy0⟩ : ∃ y : UInt8, y = UInt8.ofNat (x.toNat / 16777216) := ⟨_, rfl⟩
                  obtain ⟨y1, hy1⟩ : ∃ y : UInt8, y = UInt8.ofNat (x.toNat / 65536) := ⟨_, rfl⟩
                  obtain ⟨y2, hy2⟩ : ∃ y : UInt8, y = UInt8.ofNat (x.toNat / 256) := ⟨_, rfl⟩
                  obtain ⟨y3, hy3⟩ : ∃ y : UInt8, y = UInt8.ofNat x.toNat := ⟨_, rfl⟩
                  have z0 : wd x / (16777216 : Int) % 256 = (y0.toNat : Int) := by rw [hy0, byte_of]; rfl
                  have z1 : wd x / (65536 : Int) % 256 = (y1.toNat : Int) := by rw [hy1, byte_of]; rfl
                  have z2 : wd x / (256 : Int) % 256 = (y2.toNat : Int) := by rw [hy2, byte_of]; rfl
                  have z3 : wd x % 256 = (y3.toNat : Int) := by rw [hy3, UInt8.toNat_ofNat']; unfold wd; norm_cast
                  have e1 : 4 * (k : Int) = (m : Int) := by omega
                  have e2 : (m : Int) + 1 = (m1 : Int) := by omega
                  have e3 : (m : Int) + 2 = (m2 : Int) := by omega
                  have e4 : (m : Int) + 3 = (m3 : Int) := by omega
                  have l0 : (m : Int) < 32 := by omega
                  have l1 : (m1 : Int) < 32 := by omega
                  have l2 : (m2 : Int) < 32 := by omega
                  have l3 : (m3 : Int) < 32 := by omega
                  have f4 := fill4 (Sp.digest ([c1, c2, c3, c4, c5, c6, c7, c8].take k)) y0 y1 y2 y3 (32 - 4 * (k + 1))
                  rw [show 32 - 4 * (k + 1) + 4 = 32 - 4 * k by omega, dl, ← hm, ← hm1, ← hm2, ← hm3, hy0, hy1, hy2, hy3, ← digest_snoc, ← tk, ← hy0, ← hy1, ← hy2, ← hy3] at f4
                  have dl2 : (Sp.digest ([c1, c2, c3, c4, c5, c6, c7, c8].take k) ++ List.replicate (32 - 4 * k) (0 : UInt8)).length = 32 := by rw [List.length_append, dl, List.length_replicate]; omega
                  obtain ⟨D, hD⟩ : ∃ D, D = Sp.digest ([c1, c2, c3, c4, c5, c6, c7, c8].take k) ++ List.replicate (32 - m) (0 : UInt8) := ⟨_, rfl⟩
                  rw [← hm, ← hD] at hx dl2
                  rw [← hD] at f4
                  obtain ⟨u0', k0⟩ : ∃ u : Int, wr.cell? ⟨g3, m, none⟩ = some (.int .u8 u) := ⟨_, (hx.cell m).trans (digC_get D m (by omega))⟩
                  obtain ⟨u1', k1⟩ : ∃ u : Int, wr.cell? ⟨g3, m1, none⟩ = some (.int .u8 u) := ⟨_, (hx.cell m1).trans (digC_get D m1 (by omega))⟩
                  obtain ⟨u2', k2⟩ : ∃ u : Int, wr.cell? ⟨g3, m2, none⟩ = some (.int .u8 u) := ⟨_, (hx.cell m2).trans (digC_get D m2 (by omega))⟩
                  obtain ⟨u3', k3⟩ : ∃ u : Int, wr.cell? ⟨g3, m3, none⟩ = some (.int .u8 u) := ⟨_, (hx.cell m3).trans (digC_get D m3 (by omega))⟩
                  have fr0 := hx.frozen m
                  have fr1 := hx.frozen m1
                  have fr2 := hx.frozen m2
                  have fr3 := hx.frozen m3
                  have n01 : m ≠ m1 := by omega
                  have n02 : m ≠ m2 := by omega
                  have n03 : m ≠ m3 := by omega
                  have n12 : m1 ≠ m2 := by omega
                  have n13 : m1 ≠ m3 := by omega
                  have n23 : m2 ≠ m3 := by omega
                  have HX := Lib.hid hx
                  have HO := Lib.hid ho
                  have F4 := Lib.hid f4
                  clear hx ho f4 tk hx2 hxx hD dl dl2 hy0 hy1 hy2 hy3 hlk hm hm1 hm2 hm3
                  go_wp2_with fail
                  go_roundw
                  case rel =>
                    refine ⟨k + 1, by omega, by go_num, ?_, HO.out.trans ((((Only.set _ _ _ _).trans (Only.set _ _ _ _)).trans (Only.set _ _ _ _)).trans (Only.set _ _ _ _))⟩
                    have hp := (((HX.out.put m (.int .u8 y0.toNat) rfl).put m1 (.int .u8 y1.toNat) rfl).put m2 (.int .u8 y2.toNat) rfl).put m3 (.int .u8 y3.toNat) rfl
                    rw [digC_set, digC_set, digC_set, digC_set, F4.out] at hp
                    exact hp
                  case measure => simp [intOf]; omega
                · obtain rfl : k = 8 := by omega
                  have HX := Lib.hid (show isBlk wr g3 36 (digC (Sp.digest [c1, c2, c3, c4, c5, c6, c7, c8])) by simpa using hx)
                  obtain ⟨arr, ha⟩ : ∃ arr, arr = digC (Sp.digest [c1, c2, c3, c4, c5, c6, c7, c8]) := ⟨_, rfl⟩
                  have ws : arr.size = 32 := by rw [ha, digC_size, Sp.digest_len]; rfl
                  have w1 : arr.all (·.oneCell') = true := by rw [ha]; exact all_oneCell_toArray (bytes_one _)
                  have FA := Lib.hid (show digC (Sp.digest (Sp.mixN ((rest ++ Sp.padding rest.length N).length / 64) [a1, a2, a3, a4, a5, a6, a7, a8] (rest ++ Sp.padding rest.length N))) = arr by rw [FH.out, ha])
                  have HA := Lib.hid ha
                  rw [← ha] at HX
                  have H2z := Lib.hid (ho.blk H2w.out G23.out)
                  have HO := Lib.hid ho
                  clear hx ho ha
                  go_wp2_with (first
                    | ((with_reducible refine at_load (t := 36) rfl ?_); refine wpList_load_row rfl _ _ rfl g3 rfl 36 arr (0, 0) _ HX.out Tryz.underlying36 rfl (by rw [ws]; kernel_rfl) ?_)
                    | ((with_reducible refine at_store (t := 36) rfl ?_); refine wpList_store_row rfl _ _ _ rfl g2 arr rfl rfl 36 _ H2z.out (by rw [ws]; kernel_rfl) (by rw [ws]; rfl) w1 ?_))
                  refine bodyPost_ret (results_cell_row rfl _ _ g2 36 arr (0, 0) _ rfl (setRow_heap _ _ _ _ _ _ H2z.out) Tryz.underlying36 rfl (by rw [ws]; kernel_rfl)) rfl ?_
                  exact ⟨by rw [FA.out], below_setRow (EQ.out.from' (HO.out.below GW3.out EQ.out.size)) (by have := GG2.out; omega) _⟩
end Go.Proofs.YtmlfnidckfeebaaGreatDoor
namespace Go.Proofs.YtmlfnidckfeebaaGreatDoor
open Go.RowKit
def Strs (w : World) (g : Nat) (L : List ByteArray) : Prop := ∀ k, (h : k < L.length) → w.cell? ⟨g, k, none⟩ = some (.string L[k])
theorem split_calls (s : ByteArray) (w : World) (hsh : ∃ m, w.cell? ⟨1, 0, none⟩ = some (.int .i64 m)) (hs : s.size < 4294967281) :
    Calls Tryz.prog 179 #[.string s, .string ⟨#[47]⟩] w fun e w' => ∃ (g : Nat) (L : List ByteArray), e = .returned (.slice (some ⟨g, 0, none⟩) L.length L.length) ∧ L.map (·.data.toList) = Sp.split s.data.toList ∧ Strs w' g L ∧ Below w.heap.size w w' ∧ w.heap.size ≤ g ∧ L.length ≤ s.size + 1 := by
  obtain ⟨m, hm⟩ := hsh
  refine (Tryz.strings_Split s ⟨#[47]⟩ m w hs hm (by decide)).mono ?_
  rintro e w' ⟨rfl, rfl⟩
  have hl : (Lib.splitB ⟨#[47]⟩ 0 (Lib.countB s ⟨#[47]⟩) s).length = Lib.countB s ⟨#[47]⟩ + 1 := by rw [Sp.split_len, ← Sp.countB_split]
  refine ⟨w.heap.size, Lib.splitB ⟨#[47]⟩ 0 (Lib.countB s ⟨#[47]⟩) s, by rw [hl], Sp.split_lib s, ?_, (Below.refl _ _).alloc (Nat.le_refl _) _, Nat.le_refl _, ?_⟩
  · intro k hk
    rw [cell_of_row _ w.heap.size k _ 9 (0, 0) (heap_alloc_new w _)]
    simp [hk]
  · rw [hl]; have := Lib.countB_le ⟨#[47]⟩ (by decide) s.size s (Nat.le_refl _); omega

set_option maxHeartbeats 400000 in
theorem sign_calls (c : UInt8) (w : World) : Calls Tryz.prog 242 #[.int .u8 c.toNat] w fun e w' => e = .returned (.bool (Sp.sign c)) ∧ w = w' := by
  have b := byte_lt c
  go_enter Tryz.func242, Tryz.ntmps242
  go_wp2
  all_goals
    go_ret
    exact ⟨ret_bool (by
      rw [Bool.eq_iff_iff]
      simp only [Sp.sign, Sp.low, Bool.or_eq_true, Bool.and_eq_true, decide_eq_true_eq, beq_iff_eq, UInt8.le_iff_toNat_le, ← UInt8.toNat_inj]
      simp [*] <;> omega), rfl⟩

theorem name_no (s : ByteArray) (h : s.toList = [] ∨ 12 < s.size ∨ s.toList = [46] ∨ s.toList = [46, 46]) : Sp.name s.data.toList = false := by
  rw [toList_data] at h
  unfold Sp.name
  have e : s.data.toList.length = s.size := by simp
  rcases h with h | h | h | h
  · rw [h]; rfl
  · rw [e]; simp [show ¬ s.size ≤ 12 by omega]
  · rw [h]; rfl
  · rw [h]; rfl
theorem name_if (s : ByteArray) (h0 : ¬ s.toList = []) (h1 : ¬ 12 < s.size) (h2 : ¬ s.toList = [46]) (h3 : ¬ s.toList = [46, 46]) : Sp.name s.data.toList = s.data.toList.all Sp.sign := by
  rw [toList_data] at h0 h2 h3
  unfold Sp.name
  have e : s.data.toList.length = s.size := by simp
  rw [e]; simp only [ne_eq, h0, h2, h3, not_false_eq_true, decide_true, Bool.true_and, Bool.and_true, decide_eq_true (show s.size ≤ 12 by omega)]

set_option maxHeartbeats 1000000 in
theorem name_calls (s : ByteArray) (w : World) (hs : s.size < 4294967281) : Calls Tryz.prog 180 #[.string s] w fun e w' => e = .returned (.bool (Sp.name s.data.toList)) ∧ w = w' := by
  by_cases h0 : s.toList = []
  · have F := Lib.hid (name_no s (.inl h0))
    go_enter Tryz.func180, Tryz.ntmps180
    go_wp2
    go_ret
    exact ⟨ret_bool F.out.symm, rfl⟩
  by_cases h1 : 12 < s.size
  · have F := Lib.hid (name_no s (.inr (.inl h1)))
    have e0 : s.toList.isEmpty = false := by simpa using h0
    have e1 : decide ((12 : Int) < (s.size : Int)) = true := by simp; omega
    clear h1
    go_enter Tryz.func180, Tryz.ntmps180
    go_wp2
    go_ret
    exact ⟨ret_bool F.out.symm, rfl⟩
  have e0 : s.toList.isEmpty = false := by simpa using h0
  have e1 : decide ((12 : Int) < (s.size : Int)) = false := by simp; omega
  by_cases h2 : s.toList = [46]
  · have F := Lib.hid (name_no s (.inr (.inr (.inl h2))))
    clear h1 e0
    go_enter Tryz.func180, Tryz.ntmps180
    go_wp2
    go_ret
    exact ⟨ret_bool F.out.symm, rfl⟩
  have e2 : (s.toList == [46]) = false := by simpa using h2
  by_cases h3 : s.toList = [46, 46]
  · have F := Lib.hid (name_no s (.inr (.inr (.inr h3))))
    clear h1 e0 h2 e2
    go_enter Tryz.func180, Tryz.ntmps180
    go_wp2
    go_ret
    exact ⟨ret_bool F.out.symm, rfl⟩
  have e3 : (s.toList == [46, 46]) = false := by simpa using h3
  have F := Lib.hid (name_if s h0 h1 h2 h3)
  clear h0 h1 h2 h3
  go_enter Tryz.func180, Tryz.ntmps180
  go_wp2
  go_loop [3, 21] (fun t i => ∃ k : Nat, k ≤ s.size ∧ i = .int .i64 k ∧ (s.data.toList.take k).all Sp.sign = true) (fun _ i => s.size - (intOf i).toNat)
  case atStart => exact ⟨0, Nat.zero_le _, rfl, rfl⟩
  case round =>
    obtain ⟨k, hk, rfl, hall⟩ := hrel
    by_cases hlt : k < s.size
    · have ht := Lib.hid (take_all s k hlt Sp.sign hall)
      go_wp2_with (go_at_call 242; refine (sign_calls _ _).mono ?_; rintro e w' ⟨rfl, rfl⟩)
      · have hn : (!Sp.sign s[k]) = true := by assumption
        go_ret
        exact ⟨ret_bool (by rw [F.out, all_no s k hlt Sp.sign (by simpa using hn)]), rfl⟩
      · have hn : (!Sp.sign s[k]) = false := by assumption
        go_round
        case rel => exact ⟨k + 1, by omega, by go_num, by rw [ht.out]; simpa using hn⟩
        case measure => simp [intOf]; omega
    · obtain rfl : k = s.size := by omega
      rw [take_size] at hall
      have H := Lib.hid hall
      clear hall
      go_wp2
      go_ret
      exact ⟨ret_bool (by rw [F.out, H.out]), rfl⟩

theorem parts_calls.pure (s : ByteArray) (L : List ByteArray) (hL : L.map (·.data.toList) = Sp.split s.data.toList) (h51 : s.size ≤ 51) :
    (4 < L.length → Sp.parts s.data.toList = []) ∧ (∀ k, (h : k < L.length) → Sp.name L[k].data.toList = false → Sp.parts s.data.toList = []) ∧
    (L.length ≤ 4 → (∀ k, (h : k < L.length) → Sp.name L[k].data.toList = true) → Sp.parts s.data.toList = L.map (·.data.toList)) := by
  have hlen : (Sp.split s.data.toList).length = L.length := by rw [← hL, List.length_map]
  have hl : ¬ 51 < s.data.toList.length := by simp; omega
  refine ⟨fun h => ?_, fun k h hn => ?_, fun h4 h => ?_⟩
  · unfold Sp.parts; rw [if_neg hl, if_pos (by omega)]
  · unfold Sp.parts; rw [if_neg hl]
    split
    · rfl
    · rw [if_neg]
      rw [Bool.not_eq_true, List.all_eq_false, ← hL]
      exact ⟨_, List.mem_map.2 ⟨L[k], List.getElem_mem h, rfl⟩, by simp [hn]⟩
  · unfold Sp.parts; rw [if_neg hl, if_neg (by omega), if_pos, hL]
    rw [List.all_eq_true, ← hL]
    rintro x hx
    obtain ⟨y, hy, rfl⟩ := List.mem_map.1 hx
    obtain ⟨k, hk, rfl⟩ := List.getElem_of_mem hy
    exact h k hk
theorem split_sizes (s : ByteArray) (L : List ByteArray) (hL : L.map (·.data.toList) = Sp.split s.data.toList) : ∀ k, (h : k < L.length) → L[k].size ≤ s.size := by
  intro k h
  have : L[k].data.toList ∈ Sp.split s.data.toList := by rw [← hL]; exact List.mem_map.2 ⟨L[k], List.getElem_mem h, rfl⟩
  have := Sp.split_mem_le _ _ this; simpa using this
theorem max_kept {w w1 : World} {g : Nat} (h : ∃ m, w.cell? ⟨g, 0, none⟩ = some (.int .i64 m)) (hb : Below w.heap.size w w1) : ∃ m, w1.cell? ⟨g, 0, none⟩ = some (.int .i64 m) := by
  obtain ⟨m, hm⟩ := h
  exact ⟨m, by rw [hb.cell (p := ⟨g, 0, none⟩) (World.block_lt_of_cell? _ _ hm)]; exact hm⟩

def ToldStrs (w : World) (l : List Sp.Bs) (e : Ending) (w' : World) : Prop :=
  Below w.heap.size w w' ∧ ((l = [] ∧ e = .returned (.slice none 0 0)) ∨ ∃ (g cap : Nat) (L : List ByteArray), 0 < L.length ∧ L.length ≤ cap ∧ e = .returned (.slice (some ⟨g, 0, none⟩) L.length cap) ∧ L.map (·.data.toList) = l ∧ Strs w' g L ∧ w.heap.size ≤ g)

set_option maxHeartbeats 1000000 in
theorem parts_calls (s : ByteArray) (w : World) (hsh : ∃ m, w.cell? ⟨1, 0, none⟩ = some (.int .i64 m)) :
    Calls Tryz.prog 112 #[.string s] w (ToldStrs w (Sp.parts s.data.toList)) := by
  by_cases h51 : 51 < s.size
  · have F := Lib.hid (show Sp.parts s.data.toList = [] by unfold Sp.parts; rw [if_pos (by simpa using h51)])
    go_enter Tryz.func112, Tryz.ntmps112
    go_wp2
    go_ret
    exact ⟨Below.refl _ _, .inl ⟨F.out, rfl⟩⟩
  go_enter Tryz.func112, Tryz.ntmps112
  go_wp2_with fail
  refine (split_calls s _ hsh (by omega)).mono ?_
  rintro e w1 ⟨g, L, rfl, hL, hS, hb, hg, hn⟩
  obtain ⟨p1, p2, p3⟩ := parts_calls.pure s L hL (by omega)
  have hz := split_sizes s L hL
  have hl0 : 0 < L.length := by
    rw [← List.length_map (f := fun x : ByteArray => x.data.toList), hL]; exact List.length_pos_iff.2 (Sp.split_ne _)
  have P1 := Lib.hid p1
  have P2 := Lib.hid p2
  have P3 := Lib.hid p3
  have HS := Lib.hid hS
  have HZ := Lib.hid hz
  have HL := Lib.hid hL
  clear p1 p2 p3 hS hz hsh hL
  go_wp2
  · have h4 : (4 : Int) < (L.length : Int) := by assumption
    go_ret
    exact ⟨hb, .inl ⟨P1.out (by omega), rfl⟩⟩
  · have h4 : (L.length : Int) ≤ 4 := by assumption
    go_loop [5, 16] (fun _ i => ∃ k : Nat, k ≤ L.length ∧ i = .int .i64 k ∧ ∀ j, (h : j < L.length) → j < k → Sp.name L[j].data.toList = true) (fun _ i => L.length - (intOf i).toNat)
    case atStart => exact ⟨0, Nat.zero_le _, rfl, fun _ _ h => absurd h (by omega)⟩
    case round =>
      obtain ⟨k, hk, rfl, hall⟩ := hrel
      have HA := Lib.hid hall
      clear hall
      by_cases hlt : k < L.length
      · have hck := HS.out k hlt
        have hzk := HZ.out k hlt
        go_wp2_with (go_at_call 180; refine (name_calls _ _ (by omega)).mono ?_; rintro e w' ⟨rfl, rfl⟩)
        · have hq : (!Sp.name L[k].data.toList) = true := by assumption
          go_ret
          exact ⟨hb, .inl ⟨P2.out k hlt (by simpa using hq), rfl⟩⟩
        · have hq : (!Sp.name L[k].data.toList) = false := by assumption
          go_round
          case rel => exact ⟨k + 1, by omega, by go_num, fun j h hj => by
            by_cases e : j = k
            · subst e; simpa using hq
            · exact HA.out j h (by omega)⟩
          case measure => simp [intOf]; omega
      · go_wp2
        go_ret
        exact ⟨hb, .inr ⟨g, _, L, hl0, Nat.le_refl _, rfl, (P3.out (by omega) fun j h => HA.out j h (by omega)).symm, HS.out, hg⟩⟩
theorem sign_iff (c : UInt8) : Sp.sign c = true ↔ (97 ≤ (c.toNat : Int) ∧ (c.toNat : Int) ≤ 122 ∨ 48 ≤ (c.toNat : Int) ∧ (c.toNat : Int) ≤ 57 ∨ (c.toNat : Int) = 46 ∨ (c.toNat : Int) = 95 ∨ (c.toNat : Int) = 45) := by
  simp only [Sp.sign, Sp.low, Bool.or_eq_true, Bool.and_eq_true, decide_eq_true_eq, beq_iff_eq, UInt8.le_iff_toNat_le, ← UInt8.toNat_inj]
  simp; omega

theorem sign_cases (c : UInt8) : (Sp.sign c = true ∧ 97 ≤ (c.toNat : Int) ∧ (c.toNat : Int) ≤ 122) ∨ (Sp.sign c = true ∧ 48 ≤ (c.toNat : Int) ∧ (c.toNat : Int) ≤ 57) ∨ (Sp.sign c = true ∧ (c.toNat : Int) = 46) ∨ (Sp.sign c = true ∧ (c.toNat : Int) = 95) ∨ (Sp.sign c = true ∧ (c.toNat : Int) = 45) ∨
    (Sp.sign c = false ∧ (decide ((c.toNat : Int) < 97) || decide ((122 : Int) < c.toNat)) = true ∧ (decide ((c.toNat : Int) < 48) || decide ((57 : Int) < c.toNat)) = true ∧ ((c.toNat : Int) != 46) = true ∧ ((c.toNat : Int) != 95) = true ∧ ((c.toNat : Int) != 45) = true) := by
  have h := sign_iff c
  cases e : Sp.sign c with
  | true => have := h.1 e; simp only [true_and, Bool.true_eq_false, false_and, or_false]; omega
  | false =>
    have := mt h.2 (by rw [e]; simp)
    simp only [true_and, Bool.false_eq_true, false_and, false_or, Bool.or_eq_true, decide_eq_true_eq, bne_iff_ne]; omega

set_option maxHeartbeats 1000000 in
theorem rname_calls (s : ByteArray) (w : World) (hs : s.size < 4294967281) : Calls Tryz.prog 118 #[.string s] w fun e w' => e = .returned (.bool (Sp.name s.data.toList)) ∧ w = w' := by
  by_cases h0 : s.toList = []
  · have F := Lib.hid (name_no s (.inl h0))
    have hz : s.size = 0 := by rw [toList_data] at h0; have := congrArg List.length h0; simpa using this
    have e1 : decide ((s.size : Int) < 1) = true := by simp; omega
    clear h0
    go_enter Tryz.func118, Tryz.ntmps118
    go_wp2
    go_ret
    exact ⟨ret_bool F.out.symm, rfl⟩
  have hz : 1 ≤ s.size := by rw [toList_data] at h0; have := List.length_pos_iff.2 h0; simp at this; omega
  have e0 : decide ((s.size : Int) < 1) = false := by simp; omega
  by_cases h1 : 12 < s.size
  · have F := Lib.hid (name_no s (.inr (.inl h1)))
    have e1 : decide ((12 : Int) < (s.size : Int)) = true := by simp; omega
    clear h1
    go_enter Tryz.func118, Tryz.ntmps118
    go_wp2
    go_ret
    exact ⟨ret_bool F.out.symm, rfl⟩
  have e1 : decide ((12 : Int) < (s.size : Int)) = false := by simp; omega
  by_cases h2 : s.toList = [46]
  · have F := Lib.hid (name_no s (.inr (.inr (.inl h2))))
    clear h1
    go_enter Tryz.func118, Tryz.ntmps118
    go_wp2
    go_ret
    exact ⟨ret_bool F.out.symm, rfl⟩
  have e2 : (s.toList == [46]) = false := by simpa using h2
  by_cases h3 : s.toList = [46, 46]
  · have F := Lib.hid (name_no s (.inr (.inr (.inr h3))))
    clear h1 h2 e2
    go_enter Tryz.func118, Tryz.ntmps118
    go_wp2
    go_ret
    exact ⟨ret_bool F.out.symm, rfl⟩
  have e3 : (s.toList == [46, 46]) = false := by simpa using h3
  have F := Lib.hid (name_if s h0 h1 h2 h3)
  clear h0 h1 h2 h3
  go_enter Tryz.func118, Tryz.ntmps118
  go_wp2
  go_loop [3, 4] (fun i t => ∃ k : Nat, k ≤ s.size ∧ i = .int .i64 k ∧ (s.data.toList.take k).all Sp.sign = true) (fun i _ => s.size - (intOf i).toNat)
  case atStart => exact ⟨0, Nat.zero_le _, rfl, rfl⟩
  case round =>
    obtain ⟨k, hk, rfl, hall⟩ := hrel
    by_cases hlt : k < s.size
    · have ht := Lib.hid (take_all s k hlt Sp.sign hall)
      have b := byte_lt s[k]
      rcases sign_cases s[k] with ⟨g, c1, c2⟩ | ⟨g, c1, c2⟩ | ⟨g, c1⟩ | ⟨g, c1⟩ | ⟨g, c1⟩ | ⟨g, c1, c2, c3, c4, c5⟩
      · have G := Lib.hid g
        clear g
        go_wp2
        go_round
        case rel => exact ⟨k + 1, by omega, by go_num, by rw [ht.out]; exact G.out⟩
        case measure => simp [intOf]; omega
      · have G := Lib.hid g
        clear g
        go_wp2
        go_round
        case rel => exact ⟨k + 1, by omega, by go_num, by rw [ht.out]; exact G.out⟩
        case measure => simp [intOf]; omega
      · have G := Lib.hid g
        clear g
        go_wp2
        go_round
        case rel => exact ⟨k + 1, by omega, by go_num, by rw [ht.out]; exact G.out⟩
        case measure => simp [intOf]; omega
      · have G := Lib.hid g
        clear g
        go_wp2
        go_round
        case rel => exact ⟨k + 1, by omega, by go_num, by rw [ht.out]; exact G.out⟩
        case measure => simp [intOf]; omega
      · have G := Lib.hid g
        clear g
        go_wp2
        go_round
        case rel => exact ⟨k + 1, by omega, by go_num, by rw [ht.out]; exact G.out⟩
        case measure => simp [intOf]; omega
      · have G := Lib.hid g
        clear g
        go_wp2
        all_goals
          go_ret
          exact ⟨ret_bool (by rw [F.out, all_no s k hlt Sp.sign G.out]), rfl⟩
    · obtain rfl : k = s.size := by omega
      rw [take_size] at hall
      have H := Lib.hid hall
      clear hall
      go_wp2
      go_ret
      exact ⟨ret_bool (by rw [F.out, H.out]), rfl⟩

theorem split_cons_ne {d : UInt8} {r h : Sp.Bs} {t : List Sp.Bs} (hd : ¬ d = 47) (e : Sp.split r = h :: t) : Sp.split (d :: r) = (d :: h) :: t := by
  rw [Sp.split, if_neg hd, e]
theorem split_snoc (l : Sp.Bs) (c : UInt8) : Sp.split (l ++ [c]) = if c = 47 then Sp.split l ++ [[]] else (Sp.split l).dropLast ++ [(Sp.split l).getLast (Sp.split_ne l) ++ [c]] := by
  induction l with
  | nil => simp only [List.nil_append, Sp.split]; split <;> rfl
  | cons d r ih =>
    rw [List.cons_append]
    by_cases hd : d = 47
    · have e : Sp.split (d :: r) = [] :: Sp.split r := by rw [Sp.split, if_pos hd]
      rw [Sp.split, if_pos hd, ih]
      simp only [e]
      split
      · rfl
      · rw [List.dropLast_cons_of_ne_nil (Sp.split_ne r), List.getLast_cons (Sp.split_ne r)]; rfl
    · obtain ⟨h, t, e1⟩ : ∃ h t, Sp.split r = h :: t := by
        cases e : Sp.split r with
        | nil => exact absurd e (Sp.split_ne r)
        | cons h t => exact ⟨h, t, rfl⟩
      simp only [split_cons_ne hd e1]
      simp only [e1] at ih
      by_cases hc : c = 47
      · rw [if_pos hc] at ih ⊢
        exact split_cons_ne hd ih
      · rw [if_neg hc] at ih ⊢
        cases t with
        | nil => exact split_cons_ne hd ih
        | cons x t =>
          have ih' : Sp.split (r ++ [c]) = h :: ((x :: t).dropLast ++ [(x :: t).getLast (by simp) ++ [c]]) := by rw [ih]; simp
          rw [split_cons_ne hd ih']; simp

theorem extract_one (s : ByteArray) (k : Nat) (h : k < s.size) : (s.extract k (k + 1)).data.toList = [s[k]] := by
  have h' : k < s.data.toList.length := by simpa using h
  have e : s[k] = s.data.toList[k] := rfl
  rw [Lib.extract_data, e]
  simp only [Nat.add_sub_cancel_left]
  rw [List.drop_eq_getElem_cons h']; rfl

theorem app27 : AppStat Tryz.prog 32 9 1 16 := by
  refine ⟨Tryz.underlying32, by decide, by decide, ?_⟩
  obtain ⟨i0, hi, hz0, hz1, hz2⟩ := info_parts (show (Tryz.prog.info? 9).map (fun i => (i.zero, i.size, i.bytes)) = some (some (.string ⟨#[]⟩), 1, 16) by kernel_rfl)
  exact ⟨i0, _, hi, hz0, hz1, hz2, rfl⟩

set_option maxHeartbeats 1000000 in
theorem pieces_calls (s : ByteArray) (w : World) (hs : s.size < 4294967200) :
    Calls Tryz.prog 87 #[.string s] w (ToldStrs w (Sp.split s.data.toList)) := by
  go_enter Tryz.func87, Tryz.ntmps87
  go_wp2
  go_loopw [3, 4] (fun v i wr => ∃ (k g cap : Nat) (M : List ByteArray) (x : ByteArray), k ≤ s.size ∧ i = .int .i64 k ∧ v = .slice (some ⟨g, 0, none⟩) (M.length + 1) cap ∧ w.heap.size ≤ g ∧ M.length ≤ k ∧ x.size ≤ k ∧ (M ++ [x]).map (·.data.toList) = Sp.split (s.data.toList.take k) ∧ wr.ownsRow w.heap.size 9 1 (.slice (some ⟨g, 0, none⟩) (M.length + 1) cap) (M.length + 1) ((M ++ [x]).map Value.string) ∧ Below w.heap.size w wr) (fun _ i _ => s.size - (intOf i).toNat)
  case atStart =>
    refine ⟨0, w.heap.size, 1, [], ByteArray.empty, Nat.zero_le _, rfl, rfl, Nat.le_refl _, Nat.le_refl _, by simp, by simp [Sp.split], ?_, (Below.refl _ _).alloc (Nat.le_refl _) _⟩
    exact World.ownsRow_lit w #[.string ⟨#[]⟩] 1 (Nat.le_refl _) (by decide) rfl
  case round =>
    obtain ⟨k, g, cap, M, x, hk, rfl, rfl, hg, hM, hx, hsp, hown, hb⟩ := hrel
    by_cases hlt : k < s.size
    · have hsn := split_snoc (s.data.toList.take k) s[k]
      rw [← take_snoc s k hlt] at hsn
      by_cases hc : s[k] = 47
      · have hb1 : (((s[k]).toNat : Int) == 47) = true := by rw [hc]; rfl
        rw [if_pos hc, ← hsp] at hsn
        have HN := Lib.hid hsn
        have HP := Lib.hid hsp
        clear hsn hsp hc
        go_wp2_with (at_builtin; refine app_new app27 rfl _ _ rfl w.heap.size _ (M.length + 1) _ rfl hown #[.string ⟨#[]⟩] _ 1 rfl rfl ?c1 (by decide) ?c2 ?c3 ?_; (case c1 => (intro u hu; simp at hu; subst hu; rfl)); (case c2 => omega); (case c3 => exact hb.size); intro g' cap' w' hown' _ hb' hg')
        go_roundw
        case rel =>
          refine ⟨k + 1, g', cap', M ++ [x], ⟨#[]⟩, by omega, by go_num, ?_, hg', by simp; omega, Nat.zero_le _, ?_, ?_, hb.trans hb'⟩
          · simp
          · rw [HN.out]; simp
          · simpa using hown'
        case measure => simp [intOf]; omega
      · have hb1 : (((s[k]).toNat : Int) == 47) = false := by
          rw [beq_eq_false_iff_ne]; intro e; exact hc (UInt8.toNat_inj.1 (by simpa using (by omega : (s[k]).toNat = 47)))
        have hsn' : Sp.split (s.data.toList.take (k + 1)) = M.map (·.data.toList) ++ [x.data.toList ++ [s[k]]] := by
          rw [hsn, if_neg hc]; simp [← hsp]
        have HN := Lib.hid hsn'
        have HP := Lib.hid hsp
        have hcell : wr.cell? ⟨g, M.length, none⟩ = some (.string x) := by rw [hown.cellAt M.length (by omega)]; simp
        have hfr := hown.frozenAt M.length
        have q1 : IntKind.i64.wrap (M.length : Int) = (M.length : Int) := IntWalk.i64_in _ (by omega)
        have q2 : IntKind.i64.wrap ((k : Int) + 1) = (k : Int) + 1 := IntWalk.i64_in _ (by omega)
        have q3 : ∀ W, (Instr.slice 9 (.string s) (some (.int .i64 (k : Int))) (some (.int .i64 ((k : Int) + 1))) none).run Tryz.prog W = .ok (.string (s.extract k (k + 1))) W := fun W => by
          rw [run_slice_string W _ s .i64 .i64 (k : Int) ((k : Int) + 1) Tryz.underlying9 (by omega) (by omega) (by omega)]; rfl
        clear hsn' hsn hsp hc
        go_wp2_with fail
        go_region
        go_wp2
        have hown1 := (hown.stored M.length (.string (x ++ s.extract k (k + 1)))).1
        have hl : (List.map Value.string (M ++ [x])).set M.length (.string (x ++ s.extract k (k + 1))) = List.map Value.string (M ++ [x ++ s.extract k (k + 1)]) := by simp
        rw [hl] at hown1
        go_roundw
        case rel =>
          refine ⟨k + 1, g, cap, M, x ++ s.extract k (k + 1), by omega, by go_num, rfl, hg, by omega, by simp; omega, ?_, hown1, ?_⟩
          · rw [HN.out, ← extract_one s k hlt]; simp
          · exact (hb.drew).setCell (by exact hg) _
        case measure => simp [intOf]; omega
    · obtain rfl : k = s.size := by omega
      rw [take_size] at hsp
      have HP := Lib.hid hsp
      clear hsp
      go_wp2
      go_ret
      have hcap : M.length + 1 ≤ cap := by
        rcases hown.2 with ⟨h, _⟩ | ⟨_, _, _, h, _, _, hc, _⟩
        · cases h
        · cases h; exact hc
      refine ⟨hb, .inr ⟨g, cap, M ++ [x], by simp, by simpa using hcap, by simp, HP.out, ?_, hg⟩⟩
      intro j hj
      rw [hown.cellAt j (by simpa using hj), List.getElem?_map, List.getElem?_eq_getElem hj]; rfl

theorem check_pure (s : ByteArray) (L : List ByteArray) (hL : L.map (·.data.toList) = Sp.split s.data.toList) (h51 : s.size ≤ 51) :
    (4 < L.length → Sp.check s.data.toList = 1) ∧ (∀ k, (h : k < L.length) → Sp.name L[k].data.toList = false → Sp.check s.data.toList = 1) ∧
    (L.length ≤ 4 → (∀ k, (h : k < L.length) → Sp.name L[k].data.toList = true) → Sp.check s.data.toList = 0) := by
  obtain ⟨p1, p2, p3⟩ := parts_calls.pure s L hL h51
  have hl : ¬ 51 < s.data.toList.length := by simp; omega
  have hl0 : 0 < L.length := by
    rw [← List.length_map (f := fun x : ByteArray => x.data.toList), hL]; exact List.length_pos_iff.2 (Sp.split_ne _)
  refine ⟨fun h => ?_, fun k h hn => ?_, fun h4 h => ?_⟩
  · unfold Sp.check; rw [if_neg hl, p1 h]; rfl
  · unfold Sp.check; rw [if_neg hl, p2 k h hn]; rfl
  · unfold Sp.check; rw [if_neg hl, p3 h4 h, if_neg (by simp; exact fun e => by rw [e] at hl0; simp at hl0)]

set_option maxHeartbeats 1000000 in
theorem rcheck_calls (s : ByteArray) (w : World) (hs : s.size < 4294967200) :
    Calls Tryz.prog 58 #[.string s] w fun e w' => e = .returned (.int .i64 (Sp.check s.data.toList)) ∧ Below w.heap.size w w' := by
  by_cases h51 : 51 < s.size
  · have F := Lib.hid (show Sp.check s.data.toList = 2 by unfold Sp.check; rw [if_pos (by simpa using h51)])
    go_enter Tryz.func58, Tryz.ntmps58
    go_wp2
    go_ret
    exact ⟨ret_int F.out.symm, Below.refl _ _⟩
  go_enter Tryz.func58, Tryz.ntmps58
  go_wp2_with fail
  refine (pieces_calls s _ (by omega)).mono ?_
  rintro e w1 ⟨hb, ⟨h0, _⟩ | ⟨g, cap, L, hl0, _, rfl, hL, hS, hg⟩⟩
  · exact absurd h0 (Sp.split_ne _)
  obtain ⟨p1, p2, p3⟩ := check_pure s L hL (by omega)
  have hz := split_sizes s L hL
  have P1 := Lib.hid p1
  have P2 := Lib.hid p2
  have P3 := Lib.hid p3
  have HS := Lib.hid hS
  have HZ := Lib.hid hz
  have HL := Lib.hid hL
  clear p1 p2 p3 hS hz hL
  go_wp2
  go_loop [4] (fun i => ∃ k : Nat, k ≤ L.length ∧ i = .int .i64 k ∧ (0 < k → L.length ≤ 4) ∧ ∀ j, (h : j < L.length) → j < k → Sp.name L[j].data.toList = true) (fun i => L.length - (intOf i).toNat)
  case atStart => exact ⟨0, Nat.zero_le _, rfl, fun h => absurd h (by omega), fun _ _ h => absurd h (by omega)⟩
  case round =>
    obtain ⟨k, hk, rfl, h4, hall⟩ := hrel
    have HA := Lib.hid hall
    have H4 := Lib.hid h4
    clear hall h4
    by_cases hlt : k < L.length
    · have hck := HS.out k hlt
      have hzk := HZ.out k hlt
      go_wp2_with (go_at_call 118; refine (rname_calls _ _ (by omega)).mono ?_; rintro e w' ⟨rfl, rfl⟩)
      · have h5 : (4 : Int) < (L.length : Int) := by assumption
        go_ret
        exact ⟨ret_int (P1.out (by omega)).symm, hb⟩
      · have h5 : (L.length : Int) ≤ 4 := by assumption
        have hq : Sp.name L[k].data.toList = true := by assumption
        go_round
        case rel => exact ⟨k + 1, by omega, by go_num, fun _ => by omega, fun j h hj => by
          by_cases e : j = k
          · subst e; exact hq
          · exact HA.out j h (by omega)⟩
        case measure => simp [intOf]; omega
      · have hq : ¬ Sp.name L[k].data.toList = true := by assumption
        go_ret
        exact ⟨ret_int (P2.out k hlt (by simpa using hq)).symm, hb⟩
    · go_wp2
      go_ret
      exact ⟨ret_int (P3.out (H4.out (by omega)) fun j h => HA.out j h (by omega)).symm, hb⟩

set_option maxHeartbeats 1000000 in
theorem rparts_calls (s : ByteArray) (w : World) (hs : s.size < 4294967200) :
    Calls Tryz.prog 80 #[.string s] w (ToldStrs w (Sp.parts s.data.toList)) := by
  by_cases hc : Sp.check s.data.toList = 0
  · have hp : Sp.parts s.data.toList = Sp.split s.data.toList := by
      unfold Sp.check at hc
      split at hc
      · simp at hc
      · split at hc
        · simp at hc
        · rename_i h1 h2
          unfold Sp.parts at h2 ⊢
          rw [if_neg h1] at h2 ⊢
          repeat' split
          all_goals (first | rfl | simp_all)
    have HP := Lib.hid hp
    have HC := Lib.hid hc
    have e0 : (Sp.check s.data.toList != 0) = false := by rw [hc]; rfl
    clear hp hc
    go_enter Tryz.func80, Tryz.ntmps80
    go_wp2_with fail
    refine (rcheck_calls s _ hs).mono ?_
    rintro e w1 ⟨rfl, hb⟩
    go_wp2_with fail
    refine (pieces_calls s _ hs).mono ?_
    rintro e w2 ⟨hb2, h⟩
    rcases h with ⟨h0, rfl⟩ | ⟨g, cap, L, hl0, hlc, rfl, hL, hS, hg⟩
    · exact absurd h0 (Sp.split_ne _)
    · have HL := Lib.hid hL
      have HS := Lib.hid hS
      clear hL hS
      go_wp2
      go_ret
      exact ⟨hb.trans (hb2.mono hb.size), .inr ⟨g, cap, L, hl0, hlc, rfl, HL.out.trans HP.out.symm, HS.out, Nat.le_trans hb.size hg⟩⟩
  · have hp : Sp.parts s.data.toList = [] := by
      unfold Sp.check at hc
      split at hc
      · unfold Sp.parts; rw [if_pos (by assumption)]
      · split at hc
        · exact List.eq_nil_of_length_eq_zero (by assumption)
        · simp at hc
    have HP := Lib.hid hp
    have e0 : (Sp.check s.data.toList != 0) = true := by simpa using hc
    clear hp hc
    go_enter Tryz.func80, Tryz.ntmps80
    go_wp2_with fail
    refine (rcheck_calls s _ hs).mono ?_
    rintro e w1 ⟨rfl, hb⟩
    go_wp2
    go_ret
    exact ⟨hb, .inl ⟨HP.out, rfl⟩⟩
end Go.Proofs.YtmlfnidckfeebaaGreatDoor
