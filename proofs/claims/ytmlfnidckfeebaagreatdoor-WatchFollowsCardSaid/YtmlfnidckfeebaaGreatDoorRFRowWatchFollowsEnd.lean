/- The statement WatchFollows of chapter 46: who notes what a watcher tells has just the files that users see, or two unlike nodes have one digest. For every input; no condition of its own. -/
import Derived.Test.YtmlfnidckfeebaaGreatDoorCards
import Derived.Test.YtmlfnidckfeebaaGreatDoorTie
import Derived.ProofKit
import Derived.ShutString
import Derived.ChangeOld
import Derived.Lay
import Derived.Deep.DeepHandedRow
import Derived.Test.YtmlfnidckfeebaaGreatDoorRF028
namespace Go.Proofs.YtmlfnidckfeebaaGreatDoor.watchFollows
open Go.ChangeShapes Go.WideShapes Go.ChangeAt Go.RowKit
open Go.ChangeMaps (open_string shut_string)
theorem own : ownKnob Tryz.prog.godebug = none := by kernel_rfl
theorem laidOut : laidOutB Tryz.prog = true := by kernel_rfl
theorem tab1 : (Rows.laid_hearsay_sha_keys : DataW Unit) = .agg (Sp.keys.map fun k => .lit (.int .u32 (wd k))) := by kernel_rfl
theorem tab2 : (Rows.laid_hearsay_hearsayref03_keys : DataW Unit) = .agg (Sp.keys.map fun k => .lit (.int .u32 (wd k))) := by kernel_rfl
theorem keys1 {w : World} (h : laidMetH Tryz.prog Rows.watchFollowsRow.laid w) : KeysAt w 2 :=
  keys_laid (n := "hearsay/sha.keys") (t := 274) (e := 244) h (by kernel_rfl) (by kernel_rfl) (by kernel_rfl) Tryz.underlying274 Tryz.underlying244 (by kernel_rfl) (by kernel_rfl)
    (by rw [← tab1]; simp [Rows.watchFollowsRow])
theorem keys2 {w : World} (h : laidMetH Tryz.prog Rows.watchFollowsRow.laid w) : KeysAt w 0 :=
  keys_laid (n := "hearsay/hearsayref03.keys") (t := 274) (e := 244) h (by kernel_rfl) (by kernel_rfl) (by kernel_rfl) Tryz.underlying274 Tryz.underlying244 (by kernel_rfl) (by kernel_rfl)
    (by rw [← tab2]; simp [Rows.watchFollowsRow])
set_option maxRecDepth 100000 in
/-- What the walk gives, for every argument and every world. -/
theorem contract (H : Type) (enc : TypeId × Value → H) (W : World) (base : Nat) (args : Array Value) (ds gs : List (DataW H)) (before : List MemPlace)
    (hval : ∀ (j : Nat) t v, Tryz.f11.params[j]? = some t → args[j]? = some v → Value.okWide Tryz.prog W .any base t v)
    (hW : DataW.Whole enc Tryz.prog Tryz.f11.params.toList Rows.watchFollowsSpec.vars false W args.toList ds gs before)
    (hz : (DataW.weightsEach Tryz.prog (Tryz.f11.params.toList ++ []) (ds ++ gs)).all (· ≤ reachBytes) = true) (hlaid : laidMetH Tryz.prog Rows.watchFollowsRow.laid W) (hsh : W.ShapedOpen Tryz.prog) :
    Calls Tryz.prog 11 args W fun e W' => ∃ v, e = .returned v ∧ Rows.watchFollowsSpec.post enc Tryz.prog Tryz.f11 false true false false W args v W' := by
  have hW' := hW
  obtain ⟨p, q, hA0, hV, rfl, hfz, hnd⟩ := hW
  have hA : DataW.TrodAll enc Tryz.prog W 0 (fun _ => true) true Tryz.f11.params.toList args.toList ds p := hA0
  rw [Tryz.params11] at hA hval hz
  obtain ⟨v0, vs0, d0, ds0, p0, q0, hargs, rfl, rfl, h0, r0⟩ := trodAll_cons hA
  obtain ⟨v1, vs1, d1, ds1, p1, q1, rfl, rfl, rfl, h1, r1⟩ := trodAll_cons r0
  obtain ⟨rfl, rfl, rfl⟩ := trodAll_nil r1
  obtain rfl : args = #[v0, v1] := by cases args; simp_all
  obtain ⟨rfl, rfl⟩ := trodVars_none hV
  have hlt := hA0.lt
  try (simp only [List.cons_append, List.nil_append] at hz)
  simp only [List.append_nil, DataW.weightsEach, List.all_append, Bool.and_eq_true] at hz
  obtain ⟨A0, n0, cap0, rfl⟩ := okWide_slice Tryz.underlying22 (hval 0 22 v0 rfl rfl)
  obtain ⟨fu0, hfu0⟩ := id h0
  obtain ⟨l0, A0', cap0', hc0, hs0⟩ := open_ents hfu0
  simp only [Value.cells, List.cons.injEq, and_true, Value.slice.injEq] at hc0
  obtain ⟨rfl, rfl, rfl⟩ := hc0
  have hs0 := hs0 (hz.1)
  obtain ⟨A1, n1, cap1, rfl⟩ := okWide_slice Tryz.underlying22 (hval 1 22 v1 rfl rfl)
  obtain ⟨fu1, hfu1⟩ := id h1
  obtain ⟨l1, A1', cap1', hc1, hs1⟩ := open_ents hfu1
  simp only [Value.cells, List.cons.injEq, and_true, Value.slice.injEq] at hc1
  obtain ⟨rfl, rfl, rfl⟩ := hc1
  have hs1 := hs1 (hz.2)
  clear hA0
  refine (watchFollows_calls l0 l1 A0 A1 cap0 cap1 W hs0 hs1 (keys1 hlaid) (keys2 hlaid) (Tryz.laysM146.s1_3 W hsh)).mono fun e W' ⟨he, bel⟩ => ?_
  subst he
  exact ⟨_, rfl, _, _, _, [], _, [], hW', trodAll_mk1 (shut_bool Tryz.underlying4 _), (trodAll_cons_mk (bel.trod laidOut (by kernel_rfl) (by decide +kernel) h0 (fun x hx => hlt x (by simp only [List.mem_append]; exact Or.inl hx))) (trodAll_cons_mk (bel.trod laidOut (by kernel_rfl) (by decide +kernel) h1 (fun x hx => hlt x (by simp only [List.mem_append]; exact Or.inr (Or.inl hx)))) trodAll_mk0)), rfl, bel.frame _, fun h => by cases h⟩
theorem laid_met (os : Os) : laidMet Tryz.prog Rows.watchFollowsRow.laid ((World.laidAll Tryz.prog os Rows.watchFollowsRow.laid).forCall (fun _ _ => 0) ⟨#[], #[.slice none 0 0, .slice none 0 0], []⟩).memory := laidMet_laidAll _ (by kernel_rfl) (by kernel_rfl)
theorem reads (os : Os) {H : Type} (enc : TypeId × Value → H) : ∃ places, DataW.whole enc Tryz.prog ((World.laidAll Tryz.prog os Rows.watchFollowsRow.laid).forCall (fun _ _ => 0) ⟨#[], #[.slice none 0 0, .slice none 0 0], []⟩).memory Tryz.f11.params.toList Rows.watchFollowsSpec.vars false (#[.slice none 0 0, .slice none 0 0] : Array Value).toList 8 = some ([.nil, .nil], [], places) :=
  ⟨[], by kernel_rfl⟩
set_option maxRecDepth 100000 in
theorem lifted (os : Os) (started : os.Started) (H : Type) (enc : TypeId × Value → H) (F : Stop.Interp) :
    ReturnsInHanded {} Tryz.checked os 11 .any ((OpenSpec.ofChange Rows.watchFollowsSpec).preRow enc Tryz.prog Tryz.f11 Rows.watchFollowsRow.domain false Rows.watchFollowsRow.laid) (((OpenSpec.ofChange Rows.watchFollowsSpec).at F).post enc Tryz.prog Tryz.f11 false true false false) := by
  obtain ⟨places, hx⟩ := reads os enc
  refine returnsInHanded_of_row (C := Tryz.checked) (s := OpenSpec.ofChange Rows.watchFollowsSpec) own started (by kernel_rfl) Tryz.func11
    (witness_row_at (enc := enc) (C := Tryz.checked) false (World.laidAll Tryz.prog os Rows.watchFollowsRow.laid) #[.slice none 0 0, .slice none 0 0] (World.laidAll_os _ _ _) (by kernel_rfl) (by kernel_rfl) (by kernel_rfl)
      (OpenSpec.preRow_of_cond 8 hx (by kernel_rfl) (fun k hk => by cases hk) (by kernel_rfl) (laid_met os))) ?_
  intro W base args ds gs before hval hW _ _ hz hlaid hsh _
  exact contract H enc W base args ds gs before hval hW hz hlaid hsh
set_option maxHeartbeats 4000000 in
/-- What the program forces of the row. -/
theorem closed : joinedFacts Tryz.checked.prog 11 Tryz.f11 (OpenSpec.ofChange Rows.watchFollowsSpec).bare Rows.watchFollowsRow = true := by
  unfold joinedFacts
  simp only [Bool.and_eq_true]
  repeat' (with_reducible apply And.intro)
  all_goals (as_aux_lemma => kernel_rfl)
theorem said : Rows.WatchFollowsSaid :=
  OpenClaim.holds_of_cond 11 Tryz.f11 rfl rfl rfl rfl rfl rfl rfl ⟨rfl, rfl, rfl, rfl, rfl⟩ rfl rfl rfl rfl rfl (by as_aux_lemma => kernel_rfl) Tryz.func11 closed
    (of_decide_eq_true (by as_aux_lemma => kernel_rfl)) (by unfold Func.isWrapper; first | (rw [if_pos (by decide +kernel)]; kernel_rfl) | (rw [if_neg (by decide +kernel)]; exact ⟨rfl, rfl⟩))
    (fun os started H enc _ F => by rw [OpenClaim.pre_eq_preRow]; exact lifted os started H enc F)
theorem plain (f : FuncId) (fn : Func) (hf : Tryz.pinned.checked.prog.funcNamed "hearsay/hearsaylaw46.WatchFollows" = some f) (hfn : Tryz.pinned.checked.prog.funcs[f]? = some fn) :
    true = Tryz.pinned.checked.prog.looks [] ∧ ∀ (j : Nat) t, fn.params[j]? = some t → Tryz.pinned.checked.prog.wantsStandIn t = false := by
  obtain rfl : f = 11 := Option.some.inj ((show Tryz.prog.funcNamed "hearsay/hearsaylaw46.WatchFollows" = some 11 by kernel_rfl).symm.trans hf) |>.symm
  obtain rfl : fn = Tryz.f11 := (Option.some.inj (Tryz.func11.symm.trans hfn)).symm
  refine ⟨by as_aux_lemma => kernel_rfl, fun j t ht => ?_⟩
  rw [Tryz.params11] at ht
  have hm : t ∈ [22, 22] := by simpa using Array.mem_of_getElem? ht
  have hall : ([22, 22].all fun u => !Tryz.prog.wantsStandIn u) = true := by as_aux_lemma => kernel_rfl
  exact (show Tryz.prog.wantsStandIn t = false by simpa using List.all_eq_true.1 hall t hm)
theorem card : Rows.WatchFollowsCardSaid :=
  Claim7.holds_tied_plain_at .later [] _ _ _ _ said (fun _ h => by cases h) (by as_aux_lemma => kernel_rfl) (fun _ h => by cases h) watchFollows_row_tie rfl ⟨rfl, rfl⟩ (by as_aux_lemma => kernel_rfl) rfl plain (by as_aux_lemma => kernel_rfl)
end Go.Proofs.YtmlfnidckfeebaaGreatDoor.watchFollows
namespace Go.Proofs.YtmlfnidckfeebaaGreatDoor
/-- The statement's card. -/
theorem watchFollows_card : Rows.WatchFollowsCardSaid := watchFollows.card
#print axioms watchFollows_card
end Go.Proofs.YtmlfnidckfeebaaGreatDoor
