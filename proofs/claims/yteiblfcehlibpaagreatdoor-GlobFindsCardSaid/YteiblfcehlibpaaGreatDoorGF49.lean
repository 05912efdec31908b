/- Globs: GlobFinds. -/
import Derived.Test.YteiblfcehlibpaaGreatDoorGF45
import Derived.Test.YteiblfcehlibpaaGreatDoorGF48
namespace Go.Proofs.YteiblfcehlibpaaGreatDoor
open Go.RowKit Go.Shelf
attribute [local go_sem] yUpon strOf_toList
theorem gm_const (p s : List UInt8) (v : Bool) (hv : Sp.gmatch p s = v) (hp : p.length ≤ 900) (w : World) (hsh : MaxAt w) : Calls Tryz.prog 76 #[.string ⟨p.toArray⟩, .string ⟨s.toArray⟩] w fun e w' => e = .returned (.bool v) ∧ Below w.heap.size w w' := by
  have := gmatch_calls ⟨p.toArray⟩ ⟨s.toArray⟩ w hsh (by simpa [ByteArray.size] using hp)
  simp only [hv] at this
  exact this
namespace Sp
mutual
theorem entries_few : ∀ t : T, Ok t → ∀ e ∈ entries t, e.2.length ≤ 1000
  | .mk leaf k, hk, e, h => by
    rw [entries] at h
    rcases List.mem_append.1 h with h | h
    · by_cases hl : leaf = []
      · rw [if_pos hl] at h; cases h
      · rw [if_neg hl] at h
        obtain rfl := List.mem_singleton.1 h
        exact Nat.le_trans (leaf_ok (hk.1 hl)).1 (by decide)
    · exact entriesL_few k hk.2.2 e h
theorem entriesL_few : ∀ k : List (Bs × T), OkL k → ∀ e ∈ entriesL k, e.2.length ≤ 1000
  | [], _, e, h => by rw [entriesL] at h; cases h
  | (n, t) :: r, hk, e, h => by
    rw [entriesL] at h
    rcases List.mem_append.1 h with h | h
    · obtain ⟨x, hx, rfl⟩ := List.mem_map.1 h
      exact entries_few t hk.2.2.1 x hx
    · exact entriesL_few r hk.2.2.2 e h
end
theorem Both.few {o : Option T} {m : List DE} (h : Both o m) : ∀ e ∈ m, e.2.length ≤ 1000 := fun e he => by
  have h1 : (split e.1, e.2) ∈ entriesO o := by rw [← h.eq]; exact List.mem_map.2 ⟨e, he, rfl⟩
  cases o with
  | none => cases h1
  | some t => exact entries_few t (h.go.1 t rfl) _ h1
end Sp
set_option maxHeartbeats 1000000 in
theorem awake44g_calls (w : World) (hsh : MaxAt w) : Calls Tryz.prog 40 #[] w fun e w' => e = .returned (.bool true) ∧ Ext w w' := by
  have MM := Lib.hid hsh
  clear hsh
  go_enter Tryz.func40, Tryz.ntmps40
  go_wp2_with fail
  refine (gm_const [97, 47, 42, 42, 47, 99, 42] [97, 47, 99] true (by decide +kernel) (by decide) w MM.out).mono ?_
  rintro e w1 ⟨rfl, b1⟩
  have B1 := Lib.hid (show Ext w w1 from b1)
  clear b1
  go_wp2_with fail
  refine (gm_const [97, 47, 42, 42, 47, 99, 42] [97, 47, 120, 47, 121, 47, 99, 100] true (by decide +kernel) (by decide) w1 (max_kept MM.out B1.out)).mono ?_
  rintro e w2 ⟨rfl, b2⟩
  have B2 := Lib.hid (B1.out.trans b2)
  clear b2
  go_wp2_with fail
  refine (gm_const [97, 47, 42, 42, 47, 99, 42] [97, 47, 120] false (by decide +kernel) (by decide) w2 (max_kept MM.out B2.out)).mono ?_
  rintro e w3 ⟨rfl, b3⟩
  have B3 := Lib.hid (B2.out.trans b3)
  clear b3
  go_wp2_with fail
  refine (gm_const [63, 46, 98] [97, 46, 98] true (by decide +kernel) (by decide) w3 (max_kept MM.out B3.out)).mono ?_
  rintro e w4 ⟨rfl, b4⟩
  go_wp2
  go_ret
  exact ⟨rfl, B3.out.trans b4⟩
set_option maxRecDepth 100000 in
set_option maxHeartbeats 4000000 in
theorem globFinds_calls (l : List Sp.DE) (A : Option Addr) (cap : Nat) (p : Sp.Bs) (w : World) (hE : EntsAt w A l) (K : KeysAt w 4) (M : MaxAt w) :
    Calls Tryz.prog 9 #[.slice A l.length cap, .string (strOf p)] w fun e w' => e = .returned (.bool true) ∧ Ext w w' := by
  have KK := Lib.hid K
  have MM := Lib.hid M
  have HE := Lib.hid hE
  have AW := Lib.hid fun W (e : Ext w W) => awake44g_calls W (max_kept M e)
  clear K M hE
  go_enter Tryz.func9, Tryz.ntmps9
  go_wp2_with fail
  refine (great15_calls l A cap 16 w HE.out (by decide)).mono ?_
  rintro e w1 ⟨b, rfl, hgr, hb1⟩
  have B1 := Lib.hid (show Ext w w1 from hb1)
  clear hb1
  cases b with
  | true =>
    go_wp2_with fail
    refine (AW.out w1 B1.out).mono ?_
    rintro e w2 ⟨rfl, hb2⟩
    go_wp2
    go_ret
    exact ⟨rfl, B1.out.trans hb2⟩
  | false =>
    obtain ⟨hl, hp⟩ := hgr rfl
    by_cases hd : 200 < (strOf p).size
    · have c1 : (200 : Int) < ((strOf p).size : Int) := by omega
      go_wp2_with fail
      refine (AW.out w1 B1.out).mono ?_
      rintro e w2 ⟨rfl, hb2⟩
      go_wp2
      go_ret
      exact ⟨rfl, B1.out.trans hb2⟩
    · have c1 : ¬ (200 : Int) < ((strOf p).size : Int) := by omega
      have DL := Lib.hid (show p.length ≤ 900 by rw [strOf_size] at hd; omega)
      clear hd
      go_wp2_with fail
      refine (of_calls l A cap w1 (HE.out.ext B1.out) (by omega) (KK.out.ext B1.out) (max_kept MM.out B1.out)).mono ?_
      rintro e w2 ⟨v2, rfl, ht2, hb2⟩
      have T2 := Lib.hid ht2
      have B2 := Lib.hid (B1.out.trans hb2)
      clear ht2 hb2
      have BO := Lib.hid (Sp.both_of l)
      obtain ⟨o, ho⟩ : ∃ o, o = (Sp.ofT none l).1 := ⟨_, rfl⟩
      obtain ⟨m, hm⟩ : ∃ m, m = (Sp.rof [] l).1 := ⟨_, rfl⟩
      rw [← ho] at T2 BO
      rw [← hm] at BO
      clear ho hm
      have FT := Lib.hid (show ∀ e ∈ m, e.2.length ≤ 1000 from BO.out.few)
      have FC := Lib.hid fun W (e : Ext w2 W) => gfind_calls o v2 m BO.out p DL.out W (T2.out.ext e) (KK.out.ext (B2.out.trans e)) (max_kept MM.out (B2.out.trans e)) FT.out
      have EC := Lib.hid (entries_calls o v2 w2 T2.out BO.out.go BO.out.short (KK.out.ext B2.out))
      rw [BO.out.told] at EC
      have SC := Lib.hid fun A c W (h : EntsAt W A m) => rshown_calls m A c W h (Nat.le_trans BO.out.gm.2 (by decide)) BO.out.leaf
      have SP := Lib.hid (Sp.seenP_shown m)
      have PL := Lib.hid (show ∀ x ∈ Sp.shownM m, x.1.length ≤ 1000000 from fun x hx => by
        unfold Sp.shownM at hx
        obtain ⟨e, he, hh⟩ := List.mem_filterMap.1 hx
        split at hh
        · cases hh
        · cases hh; exact BO.out.mlen e he)
      have RC := Lib.hid fun (s : Sp.Bs) W (hs : s.length ≤ 1000000) => rlm_calls (strOf p) (strOf s) W (by rw [strOf_size]; exact DL.out) (by rw [strOf_size]; omega)
      simp only [strOf_data] at RC
      have sl : (Sp.seenP m).length ≤ 128 := Nat.le_trans (Sp.seenP_len m) BO.out.gm.2
      obtain ⟨S, hS⟩ : ∃ S, S = Sp.shownM m := ⟨_, rfl⟩
      rw [← hS] at SC SP PL
      obtain ⟨P, hP⟩ : ∃ P, P = Sp.seenP m := ⟨_, rfl⟩
      rw [← hP] at SP FC sl
      have HL := Lib.hid (show S.length = P.length by rw [← SP.out, List.length_map])
      have PK := Lib.hid (show ∀ k (h : k < S.length) {h' : k < P.length}, P[k]'h' = S[k].1 from fun k h h' => by simp only [← SP.out, List.getElem_map])
      have TC := Lib.hid fun A B c c' W (h : Nams W A (Sp.finds p P)) (h' : Nams W B (Sp.finds p P)) => texts_calls (Sp.finds p P) A B c c' W h h' (by have := Sp.finds_len p P; omega)
      have sl2 : S.length ≤ 128 := by have := HL.out; omega
      obtain ⟨ap, rfl⟩ := tree_ptr T2.out
      clear hp hS hP hl
      go_wp2_with fail
      refine EC.out.mono ?_
      rintro e w3 ⟨A3, c3, rfl, hE3, hb3⟩
      have E3 := Lib.hid hE3
      have B3 := Lib.hid hb3
      clear hE3 hb3
      go_wp2_with fail
      refine (SC.out A3 c3 w3 E3.out).mono ?_
      rintro e w4 ⟨A4, c4, rfl, hE4, hb4⟩
      have E4 := Lib.hid hE4
      have B4 := Lib.hid (B3.out.trans hb4)
      clear hE4 hb4
      go_wp2
      go_loopw [8, 9] (fun v8 v9 wr => ∃ k : Nat, k ≤ S.length ∧ v9 = .int .i64 k ∧ wr.ownsRow w4.heap.size 9 1 v8 (Sp.finds p (P.take k)).length (strsC (Sp.finds p (P.take k))) ∧ Ext w4 wr) (fun _ v9 _ => S.length - (intOf v9).toNat)
      case atStart => exact ⟨0, Nat.zero_le _, rfl, World.ownsRow_nil _ _ _ _, Ext.refl _⟩
      case round =>
        obtain ⟨k, hk, rfl, hO, hb⟩ := hrel
        have HB := Lib.hid hb
        have HO := Lib.hid hO
        by_cases hlt : k < S.length
        · obtain ⟨eb, eo, rfl, he⟩ := E4.out.at (by omega)
          obtain ⟨Av, cv, c0, c1x, c2x⟩ := he k hlt
          have C0 := Lib.hid c0
          have f0 := hb.cell c0
          have hkP : k < P.length := by have := HL.out; omega
          have ST := Lib.hid (Sp.finds_take p P k hkP)
          rw [show P[k] = S[k].1 from PK.out k hlt] at ST
          have nl := Sp.finds_len p (P.take k)
          rw [List.length_take] at nl
          have XL := PL.out _ (List.getElem_mem hlt)
          obtain ⟨x, hx⟩ : ∃ x, x = S[k] := ⟨_, rfl⟩
          rw [← hx] at C0 f0 ST XL
          obtain ⟨out, hout⟩ : ∃ out, out = Sp.finds p (P.take k) := ⟨_, rfl⟩
          rw [← hout] at HO ST nl
          have kb : (k : Int) < (S.length : Int) := by omega
          obtain ⟨A8, c8, e8, _⟩ := own_read HO.out
          subst e8
          clear hO hb he c0 c1x c2x hx hout
          go_wp2_with fail
          refine (RC.out x.1 wr XL).mono ?_
          rintro e w7 ⟨rfl, hb7⟩
          have E7 := Lib.hid (show Ext wr w7 from hb7)
          have B7 := Lib.hid (HB.out.trans E7.out)
          obtain ⟨b, hbb⟩ : ∃ b, b = Sp.gmatch p x.1 := ⟨_, rfl⟩
          rw [← hbb] at ST ⊢
          clear hb7 f0 hbb
          have f0 := B7.out.cell C0.out
          cases b with
          | false =>
            have ST2 := Lib.hid (show Sp.finds p (P.take (k + 1)) = out by rw [ST.out]; simp)
            have O7 := Lib.hid (own_ext HO.out E7.out)
            go_wp2
            go_roundw
            case rel => exact ⟨k + 1, by omega, by go_num, by rw [ST2.out]; exact O7.out, B7.out⟩
            case measure => simp [intOf]; omega
          | true =>
            have ST2 := Lib.hid (show Sp.finds p (P.take (k + 1)) = out ++ [x.1] by rw [ST.out]; simp)
            have tokA : True := trivial
            go_wp2_with (have _t := tokA; at_builtin; refine app_new appStr rfl _ _ rfl w4.heap.size _ out.length _ rfl (own_ext HO.out E7.out) #[.string (strOf x.1)] 9 1 rfl rfl (by intro u hu; simp at hu; subst hu; rfl) (by decide) (by omega) B7.out.size ?_; intro g9 cap9 w9 hown9 hgr9 hb9 hbg9; have O9 := Lib.hid hown9; have B9 := Lib.hid (Below.trans B7.out hb9); clear tokA _t hown9 hgr9 hb9 hbg9)
            go_roundw
            case rel =>
              refine ⟨k + 1, by omega, by go_num, ?_, B9.out⟩
              rw [ST2.out, List.length_append, strsC, List.map_append]
              exact O9.out
            case measure => simp [intOf]; omega
        · obtain rfl : k = S.length := by omega
          rw [HL.out, List.take_length] at hO
          obtain ⟨A9, c9, rfl, hc9⟩ := own_read hO
          have N9 := Lib.hid (show Nams wr A9 (Sp.finds p P) from hc9)
          have B9 := Lib.hid (B4.out.trans hb)
          clear hO HO hb hc9
          go_wp2_with fail
          refine (FC.out wr B9.out).mono ?_
          rintro e wa ⟨Aa, ca, rfl, hNa, hba⟩
          have Na := Lib.hid hNa
          have N9a := Lib.hid (N9.out.ext hba)
          have Ba := Lib.hid (B2.out.trans (B9.out.trans hba))
          clear hNa hba
          go_wp2_with fail
          refine (TC.out Aa A9 ca c9 wa Na.out N9a.out).mono ?_
          rintro e wb ⟨rfl, hbb⟩
          have Bb := Lib.hid (Ba.out.trans hbb)
          clear hbb
          go_wp2_with fail
          refine (AW.out wb Bb.out).mono ?_
          rintro e wd ⟨rfl, hbd⟩
          go_wp2
          go_ret
          exact ⟨rfl, Bb.out.trans hbd⟩
theorem globFinds_bs (l : List Sp.DE) (A : Option Addr) (cap : Nat) (p : ByteArray) (w : World) (hE : EntsAt w A l) (K : KeysAt w 4) (M : MaxAt w) :
    Calls Tryz.prog 9 #[.slice A l.length cap, .string p] w fun e w' => e = .returned (.bool true) ∧ Ext w w' := by
  have := globFinds_calls l A cap p.data.toList w hE K M
  rwa [strOf_self] at this
end Go.Proofs.YteiblfcehlibpaaGreatDoor
