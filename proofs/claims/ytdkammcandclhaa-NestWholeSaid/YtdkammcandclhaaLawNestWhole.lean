/- NestWhole: whatever the memory and the schedule, and whatever the arguments, the call returns true, and nothing that was there has turned. It has no conditions. -/
import Derived.Test.YtdkammcandclhaaRows
import Derived.Test.YtdkammcandclhaaPNestWhole
import Derived.Test.YtdkammcandclhaaPokS
import Derived.Test.YtdkammcandclhaaEv38
import Derived.WalkKit
import Derived.ProofKit
import Derived.OpenShut
import Derived.ShutString
import Derived.ChangeOld
import Derived.Below
import Derived.SizedLaws
namespace Go.Proofs.Ytdkammcandclhaa.nestWhole
open Go.ChangeShapes Go.WideShapes Go.ChangeAt Go.RowKit
open Go.ChangeMaps (open_string shut_string)
set_option linter.unusedVariables false
theorem own : ownKnob Try.prog.godebug = none := by kernel_rfl
theorem laid : laidOutB Try.prog = true := by kernel_rfl
set_option maxRecDepth 100000 in
theorem lifted (os : Os) (started : os.Started) (H : Type) (enc : TypeId × Value → H) :
    ReturnsInHanded {} Try.checked os 3 .any (Rows.nestWholeSpec.pre6 enc Try.prog Try.f3 Rows.nestWholeRow.domain false) (Rows.nestWholeSpec.post enc Try.prog Try.f3 false true false false) := by
  refine returnsInHanded_of_change_sized (C := Try.checked) own started (by kernel_rfl) Try.func3
    (ChangeSpec.witness6 (enc := enc) (C := Try.checked) false ⟨#[], #[.slice none 0 0, .slice none 0 0, .slice none 0 0], []⟩ 8 (by kernel_rfl) (by kernel_rfl) (by kernel_rfl) (by kernel_rfl)) ?_
  intro W base args ds gs before hval0 hW hcnd hsz _
  have hval : ∀ (j : Nat) t v, Try.f3.params[j]? = some t → args[j]? = some v → Value.okWide Try.prog W .any base t v := hval0
  have hlt := hW.lt
  have hW' := hW
  obtain ⟨p, q, hA0, hV, rfl, hfz, hnd⟩ := hW
  have hA : DataW.TrodAll enc Try.prog W 0 (fun _ => true) true Try.f3.params.toList args.toList ds p := hA0
  have hAll := hA
  rw [Try.params3] at hA hval
  obtain ⟨v0, vs0, d0, ds0, p0, q0, hargs, rfl, rfl, h0, r0⟩ := trodAll_cons hA
  obtain ⟨v1, vs1, d1, ds1, p1, q1, rfl, rfl, rfl, h1, r1⟩ := trodAll_cons r0
  obtain ⟨v2, vs2, d2, ds2, p2, q2, rfl, rfl, rfl, h2, r2⟩ := trodAll_cons r1
  obtain ⟨rfl, rfl, rfl⟩ := trodAll_nil r2
  obtain rfl : args = #[v0, v1, v2] := by cases args; simp_all
  obtain ⟨rfl, rfl⟩ := trodVars_none hV
  have hr := Lg.empty_rel W
  have ha := Lg.AllRo.empty
  have hz0 : ∀ l m, d0 = .slice l m → (l.length + m.length) * Try.prog.bytesOf 33 ≤ reachBytes := fun l m hd => sized_slice hsz (j := 0) rfl (by rw [← hd]; rfl) Try.underlying22
  obtain ⟨φ0, g0, a0, n0, c0, l0, hr, ha, sub0, fr0, vr0, s0⟩ := Lg.in_slice (sz := 2) (good := (fun _ => True)) Go.Lg.Try.Whole.encP_len (by omega) (fun a v hv => by
      simp only [Go.Lg.Try.Whole.encP, List.mem_cons, List.not_mem_nil, or_false] at hv
      rcases hv with rfl | rfl <;> exact ⟨rfl, fun φ => by constructor⟩) Try.underlying22 (by kernel_rfl)
    (fun n cs x h => by
      obtain ⟨hl, hf⟩ := Lg.dec_arr Try.underlying33 (by kernel_rfl) (by kernel_rfl) h
      obtain ⟨x0, x1, rfl⟩ : ∃ x0 x1 : Value, cs = [x0, x1] := by
        match cs, hl with
        | [x0, x1], _ => exact ⟨x0, x1, rfl⟩
      obtain ⟨_, _, _, c0, t0⟩ := hf 0 (by decide)
      obtain rfl := Option.some.inj c0
      obtain ⟨y0, e0, w0⟩ := Lg.dec_int (k := .i64) Try.underlying3 t0
      obtain rfl := (List.cons.inj e0).1
      obtain ⟨_, _, _, c1, t1⟩ := hf 1 (by decide)
      obtain rfl := Option.some.inj c1
      obtain ⟨y1, e1, w1⟩ := Lg.dec_int (k := .i64) Try.underlying3 t1
      obtain rfl := (List.cons.inj e1).1
      exact ⟨Prod.mk y0 y1, rfl, trivial⟩)
    (hval 0 22 v0 rfl rfl) h0 hz0 (of_decide_eq_true (by kernel_rfl)) hr ha
  have hz1 : ∀ l m, d1 = .slice l m → (l.length + m.length) * Try.prog.bytesOf 33 ≤ reachBytes := fun l m hd => sized_slice hsz (j := 1) rfl (by rw [← hd]; rfl) Try.underlying22
  obtain ⟨φ1, g1, a1, n1, c1, l1, hr, ha, sub1, fr1, vr1, s1⟩ := Lg.in_slice (sz := 2) (good := (fun _ => True)) Go.Lg.Try.Whole.encP_len (by omega) (fun a v hv => by
      simp only [Go.Lg.Try.Whole.encP, List.mem_cons, List.not_mem_nil, or_false] at hv
      rcases hv with rfl | rfl <;> exact ⟨rfl, fun φ => by constructor⟩) Try.underlying22 (by kernel_rfl)
    (fun n cs x h => by
      obtain ⟨hl, hf⟩ := Lg.dec_arr Try.underlying33 (by kernel_rfl) (by kernel_rfl) h
      obtain ⟨x0, x1, rfl⟩ : ∃ x0 x1 : Value, cs = [x0, x1] := by
        match cs, hl with
        | [x0, x1], _ => exact ⟨x0, x1, rfl⟩
      obtain ⟨_, _, _, c0, t0⟩ := hf 0 (by decide)
      obtain rfl := Option.some.inj c0
      obtain ⟨y0, e0, w0⟩ := Lg.dec_int (k := .i64) Try.underlying3 t0
      obtain rfl := (List.cons.inj e0).1
      obtain ⟨_, _, _, c1, t1⟩ := hf 1 (by decide)
      obtain rfl := Option.some.inj c1
      obtain ⟨y1, e1, w1⟩ := Lg.dec_int (k := .i64) Try.underlying3 t1
      obtain rfl := (List.cons.inj e1).1
      exact ⟨Prod.mk y0 y1, rfl, trivial⟩)
    (hval 1 22 v1 rfl rfl) h1 hz1 (of_decide_eq_true (by kernel_rfl)) hr ha
  have hz2 : ∀ l m, d2 = .slice l m → (l.length + m.length) * Try.prog.bytesOf 4 ≤ reachBytes := fun l m hd => sized_slice hsz (j := 2) rfl (by rw [← hd]; rfl) Try.underlying23
  obtain ⟨φ2, g2, a2, n2, c2, l2, hr, ha, sub2, fr2, vr2, s2⟩ := Lg.in_slice (sz := 1) (good := (fun _ => True)) Go.Lg.Try.Whole.encB_len (by omega) (fun a v hv => by
      simp only [Go.Lg.Try.Whole.encB, List.mem_cons, List.not_mem_nil, or_false] at hv
      rcases hv with rfl <;> exact ⟨rfl, fun φ => by constructor⟩) Try.underlying23 (by kernel_rfl)
    (fun n cs x h => by
      obtain ⟨y, e⟩ := Lg.dec_bool Try.underlying4 h
      exact ⟨y, e, trivial⟩)
    (hval 2 23 v2 rfl rfl) h2 hz2 (of_decide_eq_true (by kernel_rfl)) hr ha
  obtain ⟨v, hh, hcall, hvt⟩ := Go.Lg.Try.Whole.main g2 ((s0.fr fr1).fr fr2) (s1.fr fr2) s2
  have hvt : v = .bool true := hvt
  subst hvt
  have hok := Go.Lg.Try.O_ok 3 [.slice a0 n0 c0, .slice a1 n1 c1, .slice a2 n2 c2] _ _ hcall _ W [v0, v1, v2] hr (.cons ((vr0.mono sub1).mono sub2) (.cons (vr1.mono sub2) (.cons vr2 .nil)))
  refine hok.1.mono ?_
  rintro e W' ⟨φ', c, rfl, hg, hv⟩
  obtain rfl := Lg.vr_bool hv
  have bel : Below W.heap.size W W' := ⟨hg.fr.os, hg.fr.tape, hg.fr.output, hg.fr.size, fun k hk => hg.fr.block k hk (fun b t hb _ => ha b t hb)⟩
  exact ⟨_, rfl, _, _, _, [], _, [], hW', trodAll_mk1 (shut_bool Try.underlying4 _), Lg.all_stays laid (by kernel_rfl) hAll (fun x hx => bel.same (hlt x (List.mem_append_left _ hx))) (fun x hx => decide_eq_true (hlt x (List.mem_append_left _ hx))), rfl, bel.frame _, fun h => by cases h⟩
theorem over : Rows.nestWholeRow.holds Try.pinned (OpenSpec.ofChange Rows.nestWholeSpec) :=
  OpenClaim.holds_of_wide 3 Try.f3 rfl rfl rfl rfl rfl rfl rfl ⟨rfl, rfl, rfl, rfl, rfl⟩ rfl rfl rfl rfl rfl (by kernel_rfl) Try.func3 (by kernel_rfl)
    (of_decide_eq_true (by kernel_rfl)) (by unfold Func.isWrapper; first | (rw [if_pos (by decide +kernel)]; kernel_rfl) | (rw [if_neg (by decide +kernel)]; exact ⟨rfl, rfl⟩))
    (fun os started H enc _ => lifted os started H enc)
theorem proved : Rows.NestWholeSaid := over
#print axioms proved
end Go.Proofs.Ytdkammcandclhaa.nestWhole
namespace Go.Proofs.Ytdkammcandclhaa
/-- The row, under a short name, for the claim. -/
theorem nestWhole_holds : Rows.NestWholeSaid := nestWhole.proved
end Go.Proofs.Ytdkammcandclhaa
