/- NamesBack: whatever the memory and the schedule, and whatever the arguments, the call returns true, and nothing that was there has turned. It has no conditions. -/
import Derived.Test.YtbbkdjinlgmklaaDoorRows
import Derived.Test.YtbbkdjinlgmklaaDoorPNamesBack
import Derived.Test.YtbbkdjinlgmklaaDoorPokT
import Derived.Test.YtbbkdjinlgmklaaDoorEv38
import Derived.WalkKit
import Derived.ProofKit
import Derived.OpenShut
import Derived.ShutString
import Derived.ChangeOld
import Derived.Below
import Derived.SizedLaws
import Derived.Lay
import Derived.LaidOnce
import Derived.LaidMore
import Derived.LaidByTextLater
import Derived.Test.YtbbkdjinlgmklaaDoorCards
import Derived.Test.YtbbkdjinlgmklaaDoorTie
import Derived.SevenTiedAt
namespace Go.Proofs.YtbbkdjinlgmklaaDoor.namesBack
open Go.ChangeShapes Go.WideShapes Go.ChangeAt Go.RowKit
open Go.ChangeMaps (open_string shut_string)
set_option linter.unusedVariables false
theorem own : ownKnob Tryd.prog.godebug = none := by kernel_rfl
theorem laid : laidOutB Tryd.prog = true := by kernel_rfl
set_option maxRecDepth 100000 in
theorem lifted (os : Os) (started : os.Started) (H : Type) (enc : TypeId × Value → H) :
    ReturnsInHanded {} Tryd.checked os 5 .any (fun w args => (Rows.namesBackSpec.pre enc Tryd.prog Tryd.f5 Rows.namesBackRow.domain false w args ∧ laidMetH Tryd.prog Rows.namesBackRow.laid w) ∧ sizedMet enc Tryd.prog Tryd.f5 (OpenSpec.ofChange Rows.namesBackSpec) false w args) (Rows.namesBackSpec.post enc Tryd.prog Tryd.f5 false true false false) := by
  refine returnsInHanded_of_change_and (C := Tryd.checked) (X := fun w _ => laidMetH Tryd.prog Rows.namesBackRow.laid w) (fun _ _ _ hh h => h.of_heap hh) own started (by kernel_rfl) Tryd.func5
    (ChangeSpec.witness_shaped (enc := enc) (C := Tryd.checked) (os := os) (X := fun w _ => laidMetH Tryd.prog Rows.namesBackRow.laid w) false (World.laidAll Tryd.prog os Rows.namesBackRow.laid) #[.string ⟨#[]⟩, .slice none 0 0] 8 (World.laidAll_os _ _ _)
      (World.shaped_of_ZipB (by kernel_rfl) (by kernel_rfl)) (by kernel_rfl) (by kernel_rfl) (by kernel_rfl)
      (by rw [MakeChecks.laidMetH_plain _ _ _ (by kernel_rfl)]; exact laidMet_laidAll _ (by kernel_rfl) (by kernel_rfl))) ?_
  intro W base args ds gs before hval0 hW hcnd hsz hLaid _
  have hval : ∀ (j : Nat) t v, Tryd.f5.params[j]? = some t → args[j]? = some v → Value.okWide Tryd.prog W .any base t v := hval0
  have hlt := hW.lt
  have hW' := hW
  obtain ⟨p, q, hA0, hV, rfl, hfz, hnd⟩ := hW
  have hA : DataW.TrodAll enc Tryd.prog W 0 (fun _ => true) true Tryd.f5.params.toList args.toList ds p := hA0
  have hAll := hA
  rw [Tryd.params5] at hA hval
  obtain ⟨v0, vs0, d0, ds0, p0, q0, hargs, rfl, rfl, h0, r0⟩ := trodAll_cons hA
  obtain ⟨v1, vs1, d1, ds1, p1, q1, rfl, rfl, rfl, h1, r1⟩ := trodAll_cons r0
  obtain ⟨rfl, rfl, rfl⟩ := trodAll_nil r1
  obtain rfl : args = #[v0, v1] := by cases args; simp_all
  obtain ⟨rfl, rfl⟩ := trodVars_none hV
  have hr := Lg.empty_rel W
  have ha := Lg.AllRo.empty
  obtain ⟨a0, rfl, hd0, hp0, w0⟩ := open_string Tryd.underlying9 (hval 0 9 v0 rfl rfl) h0
  have hz1 : ∀ l m, d1 = .slice l m → (l.length + m.length) * Tryd.prog.bytesOf 9 ≤ reachBytes := fun l m hd => sized_slice hsz (j := 1) rfl (by rw [← hd]; rfl) Tryd.underlying23
  obtain ⟨φ1, g1, a1, n1, c1, l1, hr, ha, sub1, fr1, vr1, s1⟩ := Lg.in_slice (sz := 1) (good := Go.Lg.Tryd.goodB) Go.Lg.Tryd.encS_len (by omega) (fun a v hv => by
      simp only [Go.Lg.Tryd.encS, List.mem_cons, List.not_mem_nil, or_false] at hv
      rcases hv with rfl <;> exact ⟨rfl, fun φ => by constructor⟩) Tryd.underlying23 (by kernel_rfl)
    (fun n cs x h => by
      obtain ⟨y, e, w⟩ := Lg.dec_stringW Tryd.underlying9 h
      exact ⟨y, e, w⟩)
    (hval 1 23 v1 rfl rfl) h1 hz1 (of_decide_eq_true (by kernel_rfl)) hr ha
  obtain ⟨v, hh, hcall, hvt⟩ := Go.Lg.Tryd.Back.main g1 a0 w0 s1
  have hvt : v = .bool true := hvt
  subst hvt
  have hok := Go.Lg.Tryd.O_ok 5 [.string a0, .slice a1 n1 c1] _ _ hcall _ W [.string a0, v1] hr (.cons (.string _) (.cons vr1 .nil))
  refine hok.1.mono ?_
  rintro e W' ⟨φ', c, rfl, hg, hv⟩
  obtain rfl := Lg.vr_bool hv
  have bel : Below W.heap.size W W' := ⟨hg.fr.os, hg.fr.tape, hg.fr.output, hg.fr.size, fun k hk => hg.fr.block k hk (fun b t hb _ => ha b t hb)⟩
  exact ⟨_, rfl, _, _, _, [], _, [], hW', trodAll_mk1 (shut_bool Tryd.underlying4 _), Lg.all_stays laid (by kernel_rfl) hAll (fun x hx => bel.same (hlt x (List.mem_append_left _ hx))) (fun x hx => decide_eq_true (hlt x (List.mem_append_left _ hx))), rfl, bel.frame _, fun h => by cases h⟩
theorem over : Rows.namesBackRow.holds Tryd.pinned (OpenSpec.ofChange Rows.namesBackSpec) :=
  OpenClaim.holds_of_wide 5 Tryd.f5 rfl rfl rfl rfl rfl rfl rfl ⟨rfl, rfl, rfl, rfl, rfl⟩ rfl rfl rfl rfl rfl (by kernel_rfl) Tryd.func5 (by kernel_rfl)
    (of_decide_eq_true (by kernel_rfl)) (by unfold Func.isWrapper; first | (rw [if_pos (by decide +kernel)]; kernel_rfl) | (rw [if_neg (by decide +kernel)]; exact ⟨rfl, rfl⟩))
    (fun os started H enc _ => lifted os started H enc)
theorem proved : Rows.NamesBackSaid := over
#print axioms proved
end Go.Proofs.YtbbkdjinlgmklaaDoor.namesBack
namespace Go.Proofs.YtbbkdjinlgmklaaDoor
/-- The tied card, under a short name, for the claim. -/
theorem namesBack_holds : Rows.NamesBackCardSaid :=
  Claim7.holds_tied_plain_at .later [] [.data, .pinned] true (true, "61bccb138f0ec6b78a6e40cbda52a90131ffd5959dcc580e87a488595beeb8a9") false namesBack.proved (fun _ h => by cases h) (by kernel_rfl) (fun _ h => by cases h) namesBack_row_tie rfl ⟨rfl, rfl⟩ (by kernel_rfl) rfl
    (fun f fn hf hfn => by
      obtain rfl : f = 5 := Option.some.inj ((show Tryd.prog.funcNamed "ledgerstone/ledgerstonelaw21.NamesBack" = some 5 by kernel_rfl).symm.trans hf) |>.symm
      obtain rfl : fn = Tryd.f5 := (Option.some.inj (Tryd.func5.symm.trans hfn)).symm
      exact ⟨by kernel_rfl, fun j t ht => by
        rw [Tryd.params5] at ht
        have hm : t ∈ ([9, 23] : List Nat) := by simpa using Array.mem_of_getElem? ht
        have hall : (([9, 23] : List Nat).all fun u => !Tryd.prog.wantsStandIn u) = true := by kernel_rfl
        exact (show Tryd.prog.wantsStandIn t = false by simpa using List.all_eq_true.1 hall t hm)⟩)
    (by kernel_rfl)
end Go.Proofs.YtbbkdjinlgmklaaDoor
