/- Walks: files as an archive. -/
import Derived.Test.YtbjdgiocehoaiaaDoorPackB
import Derived.Test.YtbjdgiocehoaiaaDoorCoderE
import Derived.Test.YtbjdgiocehoaiaaDoorCrcC
namespace Go.Proofs.YtbjdgiocehoaiaaDoor
open Go.RowKit
/-- The path that was written last. -/
def lastOf (l : List Sp.File) (k : Nat) : Sp.Bs := if k = 0 then [] else ((l[k - 1]?).map (·.1)).getD []
theorem lastOf_succ (l : List Sp.File) (k : Nat) (h : k < l.length) : lastOf l (k + 1) = l[k].1 := by unfold lastOf; rw [if_neg (by omega)]; simp [h]
theorem pbody_drop (l : List Sp.File) (k : Nat) (h : k < l.length) (x : Sp.W) : Sp.pbody (lastOf l k) (l.drop k) x = Sp.pbody (lastOf l (k + 1)) (l.drop (k + 1)) (Sp.wtext l[k].2 (Sp.wtext (l[k].1.drop (Sp.common (lastOf l k) l[k].1)) (Sp.wnum (Sp.common (lastOf l k) l[k].1) x))) := by
  rw [lastOf_succ l k h, List.drop_eq_getElem_cons h, Sp.pbody]
theorem common_le : ∀ (a b : Sp.Bs), Sp.common a b ≤ a.length ∧ Sp.common a b ≤ b.length
  | [], _ => by simp [Sp.common]
  | _ :: _, [] => by simp [Sp.common]
  | a :: l, b :: m => by
    have := common_le l m
    unfold Sp.common; split <;> simp <;> omega
set_option maxRecDepth 100000 in
set_option maxHeartbeats 4000000 in
theorem packbytes_calls (l : List Sp.File) (A : Option Addr) (cap : Nat) (w : World) (hf : FsA w A l) (hl : l.length ≤ 1000) (hz : ∀ f ∈ l, f.1.length ≤ 100000 ∧ f.2.length ≤ 100000) (hsh : ∃ m, w.cell? ⟨0, 0, none⟩ = some (.int .i64 m)) :
    Calls Tryd.prog 20 #[.slice A l.length cap] w fun e w' => e = .returned (.tuple #[.string (strOf (Sp.pbytes l).1), .int .i64 (Sp.pbytes l).2]) ∧ Below w.heap.size w w' := by
  have CK := Lib.hid fun W (hW : Below w.heap.size w W) => packcheck_calls l A cap W (hf.below hW) hl (fun f hm => by have := (hz f hm).1; omega) (max_kept hsh hW)
  have FL := Lib.hid fun g x W h => wfail_calls w.heap.size g x (Sp.pcheck l) W h
  have NL := Lib.hid fun g x W h h2 h3 => wnum_calls w.heap.size g x (l.length : Int) W h h2 h3
  have PA := Lib.hid (show Sp.pall l = Sp.pbody (lastOf l 0) (l.drop 0) (Sp.wnum l.length (Sp.wfail (Sp.pcheck l) ([], 0))) from rfl)
  have L1 : (Sp.wnum l.length (Sp.wfail (Sp.pcheck l) ([], 0))).1.length ≤ 5 := by have := Sp.wnum_len (l.length : Int) (Sp.wfail (Sp.pcheck l) ([], 0)); rw [Sp.wfail_len] at this; simpa using this
  clear hsh
  go_enter Tryd.func20, Tryd.ntmps20
  have W0 : IsWr w.heap.size w.heap.size ([], 0) (w.alloc (.cells #[.pointer none, .slice none 0 0, .int .i64 0] 53)) :=
    ⟨Nat.le_refl _, .pointer none, .slice none 0 0, .inl rfl, heap_alloc_new _ _, World.ownsRow_nil _ _ _ _, by simp [Value.ownBlock]⟩
  have HB0 : Below w.heap.size w (w.alloc (.cells #[.pointer none, .slice none 0 0, .int .i64 0] 53)) := (Below.refl _ _).alloc (Nat.le_refl _) _
  have X0 := Lib.hid W0
  have Y0 := Lib.hid HB0
  clear W0 HB0
  go_wp2_with (first
    | (go_at_call 36; refine (CK.out _ Y0.out).mono ?_; rintro e w1 ⟨rfl, hb1⟩; have X1 := Lib.hid (X0.out.below hb1); have Y1 := Lib.hid (Y0.out.trans (hb1.mono Y0.out.size)); clear hb1 X0 Y0)
    | (go_at_call 35; refine (FL.out _ ([], 0) _ X1.out).mono ?_; rintro e w2 ⟨rfl, hw2, hb2, _, _⟩; have X2 := Lib.hid hw2; have Y2 := Lib.hid (Y1.out.trans hb2); clear hw2 hb2 X1 Y1)
    | (go_at_call 37; refine (NL.out _ (Sp.wfail (Sp.pcheck l) ([], 0)) _ X2.out (by rw [Sp.wfail_len]; simp) Y2.out.size).mono ?_; rintro e w3 ⟨rfl, hw3, hb3, _, _⟩; have X3 := Lib.hid hw3; have Y3 := Lib.hid (Y2.out.trans hb3); clear hw3 hb3 X2 Y2))
  clear CK FL NL
  go_loopw [5, 23] (fun v5 v23 wr => ∃ (k : Nat) (x : Sp.W), k ≤ l.length ∧ v23 = .int .i64 k ∧ v5 = .string (strOf (lastOf l k)) ∧ IsWr w.heap.size w.heap.size x wr ∧ Below w.heap.size w wr ∧ Sp.pall l = Sp.pbody (lastOf l k) (l.drop k) x ∧ x.1.length ≤ 5 + k * 200015) (fun _ v23 _ => l.length - (intOf v23).toNat)
  case atStart => exact ⟨0, _, Nat.zero_le _, rfl, rfl, X3.out, Y3.out, PA.out, by omega⟩
  case round =>
    obtain ⟨k, x, hk, rfl, rfl, hx, hb, hpa, hxl⟩ := hrel
    by_cases hlt : k < l.length
    · have q1 : decide ((k : Int) < (l.length : Int)) = true := by rw [decide_eq_true_iff]; omega
      obtain ⟨g, o, rfl, hF⟩ := hf (by rintro rfl; simp at hlt)
      obtain ⟨c1, c2⟩ := hF.below hb k hlt
      have hzk := hz _ (List.getElem_mem hlt)
      have st := pbody_drop l k hlt x
      have LS := Lib.hid (lastOf_succ l k hlt)
      obtain ⟨lst, hlst⟩ : ∃ lst, lst = lastOf l k := ⟨_, rfl⟩
      have hlen : lst.length ≤ 100000 := by
        rw [hlst]; unfold lastOf; split
        · simp
        · rename_i h0
          have : k - 1 < l.length := by omega
          simp only [List.getElem?_eq_getElem this, Option.map_some, Option.getD_some]
          exact (hz _ (List.getElem_mem this)).1
      rw [← hlst] at hpa st ⊢
      obtain ⟨f, hfk⟩ : ∃ f, f = l[k] := ⟨_, rfl⟩
      rw [← hfk] at c1 c2 hzk st LS
      have hcl := (common_le lst f.1).2
      have CM := Lib.hid fun W => common_calls (strOf lst) (strOf f.1) W (by rw [strOf_size]; omega)
      simp only [strOf_data] at CM
      obtain ⟨n, hn⟩ : ∃ n, n = Sp.common lst f.1 := ⟨_, rfl⟩
      rw [← hn] at CM hcl st
      have HP := Lib.hid (hpa.trans st)
      have s1 : (strOf f.1).size = f.1.length := strOf_size _
      have s2 := ext_drop f.1 n
      have NL := Lib.hid fun W h h3 => wnum_calls w.heap.size w.heap.size x (n : Int) W h (by omega) h3
      have hx1 : (Sp.wnum n x).1.length ≤ 5 + k * 200015 + 5 := by have := Sp.wnum_len n x; omega
      have hx2 : (Sp.wtext (f.1.drop n) (Sp.wnum n x)).1.length ≤ 5 + k * 200015 + 5 + 100005 := by have := Sp.wtext_len (f.1.drop n) (Sp.wnum n x); rw [List.length_drop] at this; omega
      have HX3 := Lib.hid (show (Sp.wtext f.2 (Sp.wtext (f.1.drop n) (Sp.wnum n x))).1.length ≤ 5 + (k + 1) * 200015 by have := Sp.wtext_len f.2 (Sp.wtext (f.1.drop n) (Sp.wnum n x)); omega)
      have TA := Lib.hid fun W h h3 => wtext_calls w.heap.size w.heap.size (Sp.wnum n x) (strOf (f.1.drop n)) W h (by omega) (by rw [strOf_size, List.length_drop]; omega) h3
      have TB := Lib.hid fun W h h3 => wtext_calls w.heap.size w.heap.size (Sp.wtext (f.1.drop n) (Sp.wnum n x)) (strOf f.2) W h (by omega) (by rw [strOf_size]; omega) h3
      simp only [strOf_data] at TA TB
      have hEb : isBlk (wr.alloc (.cells #[.string (strOf f.1), .string (strOf f.2)] 57)) wr.heap.size 57 #[.string (strOf f.1), .string (strOf f.2)] := heap_alloc_new _ _
      have hba : Below wr.heap.size wr (wr.alloc (.cells #[.string (strOf f.1), .string (strOf f.2)] 57)) := (Below.refl _ _).alloc (Nat.le_refl _) _
      have E0 := Lib.hid hEb
      have X0 := Lib.hid (hx.below hba)
      have Y0 := Lib.hid (hb.trans (hba.mono hb.size))
      clear hEb hba hx hpa st hxl hx1 hx2 hlst hfk hn
      go_wp2_with (first
        | (go_at_call 38; refine (CM.out _).mono ?_; rintro e w1 ⟨rfl, hb1⟩; have E1 := Lib.hid (E0.out.below hb1); have X1 := Lib.hid (X0.out.below hb1); have Y1 := Lib.hid (Y0.out.trans (hb1.mono Y0.out.size)); clear hb1 E0 X0 Y0)
        | (go_at_call 37; refine (NL.out _ X1.out Y1.out.size).mono ?_; rintro e w2 ⟨rfl, hw2, hb2, hk2, _⟩; have E2 := Lib.hid (hk2 _ _ _ E1.out (by decide) (by decide)); have X2 := Lib.hid hw2; have Y2 := Lib.hid (Y1.out.trans hb2); have d0 := (E2.out.cell 0).trans rfl; clear hw2 hb2 hk2 E1 X1 Y1)
        | (go_at_call 39; refine (TA.out _ X2.out Y2.out.size).mono ?_; rintro e w3 ⟨rfl, hw3, hb3, hk3, _⟩; have E3 := Lib.hid (hk3 _ _ _ E2.out (by decide) (by decide)); have X3 := Lib.hid hw3; have Y3 := Lib.hid (Y2.out.trans hb3); have d1 := (E3.out.cell 1).trans rfl; clear hw3 hb3 hk3 E2 X2 Y2 TA)
        | (go_at_call 39; refine (TB.out _ X3.out Y3.out.size).mono ?_; rintro e w4 ⟨rfl, hw4, hb4, hk4, _⟩; have E4 := Lib.hid (hk4 _ _ _ E3.out (by decide) (by decide)); have X4 := Lib.hid hw4; have Y4 := Lib.hid (Y3.out.trans hb4); have d2 := (E4.out.cell 0).trans rfl; clear hw4 hb4 hk4 E3 X3 Y3 TB))
      go_roundw
      case rel => exact ⟨k + 1, _, by omega, by go_num, by rw [LS.out], X4.out, Y4.out, HP.out, HX3.out⟩
      case measure => simp [intOf]; omega
    · obtain rfl : k = l.length := by omega
      rw [List.drop_eq_nil_of_le (Nat.le_refl _), Sp.pbody] at hpa
      subst hpa
      have hx9 : (Sp.pall l).1.length ≤ 1000000000 := by omega
      have DN := Lib.hid (wdone_calls _ _ _ _ hx (Sp.pall_ne l (by omega)))
      clear hx
      by_cases h0 : (Sp.pall l).2 = 0
      · have hd : Sp.wdone (Sp.pall l) = ((Sp.pall l).1, 0) := if_pos h0
        rw [hd] at DN
        have F := Lib.hid (show Sp.pbytes l = (Sp.sealed ([104, 97, 1] ++ (Sp.pall l).1), 0) from if_neg (by simpa using h0))
        obtain ⟨b, hbb⟩ : ∃ b, b = (Sp.pall l).1 := ⟨_, rfl⟩
        rw [← hbb] at DN F hx9
        have s1 : (strOf b).size = b.length := strOf_size _
        have a1 : (⟨#[104, 97, 1]⟩ : ByteArray) ++ strOf b = strOf ([104, 97, 1] ++ b) := by rw [strOf_append]
        have SL := Lib.hid fun W => seal_calls (strOf ([104, 97, 1] ++ b)) W (by rw [strOf_size]; simp; omega)
        simp only [strOf_data] at SL
        clear h0 hd hbb PA L1 X3 Y3
        go_wp2_with (first
          | (go_at_call 40; refine DN.out.mono ?_; rintro e w4 ⟨rfl, hb4⟩)
          | (go_at_call 41; refine (SL.out _).mono ?_; rintro e w5 ⟨rfl, hb5⟩))
        go_ret2
        exact ⟨by rw [F.out]; rfl, (hb.trans hb4).trans (hb5.mono (hb.trans hb4).size)⟩
      · have hd : Sp.wdone (Sp.pall l) = ([], (Sp.pall l).2) := if_neg h0
        rw [hd] at DN
        have F := Lib.hid (show Sp.pbytes l = ([], (Sp.pall l).2) from if_pos h0)
        have b1 : ((Sp.pall l).2 != 0) = true := by simpa using h0
        clear h0 hd PA L1 X3 Y3
        go_wp2_with (go_at_call 40; refine DN.out.mono ?_; rintro e w4 ⟨rfl, hb4⟩)
        go_ret2
        exact ⟨by rw [F.out]; rfl, hb.trans hb4⟩
end Go.Proofs.YtbjdgiocehoaiaaDoor
