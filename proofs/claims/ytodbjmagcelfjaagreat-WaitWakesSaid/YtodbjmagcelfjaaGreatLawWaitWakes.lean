/- WaitWakes: whatever the memory and the schedule, and whatever the arguments, the call returns true, and nothing that was there has turned. It has no conditions. -/
import Derived.Test.YtodbjmagcelfjaaGreatRows
import Derived.Test.YtodbjmagcelfjaaGreatPWaitWakes
import Derived.Test.YtodbjmagcelfjaaGreatPokS
import Derived.Test.YtodbjmagcelfjaaGreatEv38
import Derived.WalkKit
import Derived.ProofKit
import Derived.OpenShut
import Derived.ShutString
import Derived.ChangeOld
import Derived.Below
import Derived.SizedLaws
namespace Go.Proofs.YtodbjmagcelfjaaGreat.waitWakes
open Go.ChangeShapes Go.WideShapes Go.ChangeAt Go.RowKit
open Go.ChangeMaps (open_string shut_string)
set_option linter.unusedVariables false
theorem own : ownKnob Tryz.prog.godebug = none := by kernel_rfl
theorem laid : laidOutB Tryz.prog = true := by kernel_rfl
set_option maxRecDepth 100000 in
theorem lifted (os : Os) (started : os.Started) (H : Type) (enc : TypeId × Value → H) :
    ReturnsInHanded {} Tryz.checked os 6 .any (Rows.waitWakesSpec.pre6 enc Tryz.prog Tryz.f6 Rows.waitWakesRow.domain false) (Rows.waitWakesSpec.post enc Tryz.prog Tryz.f6 false true false false) := by
  refine returnsInHanded_of_change_sized (C := Tryz.checked) own started (by kernel_rfl) Tryz.func6
    (ChangeSpec.witness6 (enc := enc) (C := Tryz.checked) false ⟨#[], #[.slice none 0 0, .slice none 0 0, .slice none 0 0], []⟩ 8 (by kernel_rfl) (by kernel_rfl) (by kernel_rfl) (by kernel_rfl)) ?_
  intro W base args ds gs before hval0 hW hcnd hsz _
  have hval : ∀ (j : Nat) t v, Tryz.f6.params[j]? = some t → args[j]? = some v → Value.okWide Tryz.prog W .any base t v := hval0
  have hlt := hW.lt
  have hW' := hW
  obtain ⟨p, q, hA0, hV, rfl, hfz, hnd⟩ := hW
  have hA : DataW.TrodAll enc Tryz.prog W 0 (fun _ => true) true Tryz.f6.params.toList args.toList ds p := hA0
  have hAll := hA
  rw [Tryz.params6] at hA hval
  obtain ⟨v0, vs0, d0, ds0, p0, q0, hargs, rfl, rfl, h0, r0⟩ := trodAll_cons hA
  obtain ⟨v1, vs1, d1, ds1, p1, q1, rfl, rfl, rfl, h1, r1⟩ := trodAll_cons r0
  obtain ⟨v2, vs2, d2, ds2, p2, q2, rfl, rfl, rfl, h2, r2⟩ := trodAll_cons r1
  obtain ⟨rfl, rfl, rfl⟩ := trodAll_nil r2
  obtain rfl : args = #[v0, v1, v2] := by cases args; simp_all
  obtain ⟨rfl, rfl⟩ := trodVars_none hV
  have hr := Lg.empty_rel W
  have ha := Lg.AllRo.empty
  have hz0 : ∀ l m, d0 = .slice l m → (l.length + m.length) * Tryz.prog.bytesOf 3 ≤ reachBytes := fun l m hd => sized_slice hsz (j := 0) rfl (by rw [← hd]; rfl) Tryz.underlying72
  obtain ⟨φ0, g0, a0, n0, c0, l0, hr, ha, sub0, fr0, vr0, s0⟩ := Lg.in_slice (sz := 1) (good := (fun _ => True)) Go.Lg.encI_len (by omega) (fun a v hv => by
      simp only [Go.Lg.encI, List.mem_cons, List.not_mem_nil, or_false] at hv
      rcases hv with rfl <;> exact ⟨rfl, fun φ => by constructor⟩) Tryz.underlying72 (by kernel_rfl)
    (fun n cs x h => by
      obtain ⟨y, e, w⟩ := Lg.dec_int (k := .i64) Tryz.underlying3 h
      exact ⟨y, e, trivial⟩)
    (hval 0 72 v0 rfl rfl) h0 hz0 (of_decide_eq_true (by kernel_rfl)) hr ha
  have hz1 : ∀ l m, d1 = .slice l m → (l.length + m.length) * Tryz.prog.bytesOf 3 ≤ reachBytes := fun l m hd => sized_slice hsz (j := 1) rfl (by rw [← hd]; rfl) Tryz.underlying72
  obtain ⟨φ1, g1, a1, n1, c1, l1, hr, ha, sub1, fr1, vr1, s1⟩ := Lg.in_slice (sz := 1) (good := (fun _ => True)) Go.Lg.encI_len (by omega) (fun a v hv => by
      simp only [Go.Lg.encI, List.mem_cons, List.not_mem_nil, or_false] at hv
      rcases hv with rfl <;> exact ⟨rfl, fun φ => by constructor⟩) Tryz.underlying72 (by kernel_rfl)
    (fun n cs x h => by
      obtain ⟨y, e, w⟩ := Lg.dec_int (k := .i64) Tryz.underlying3 h
      exact ⟨y, e, trivial⟩)
    (hval 1 72 v1 rfl rfl) h1 hz1 (of_decide_eq_true (by kernel_rfl)) hr ha
  have hz2 : ∀ l m, d2 = .slice l m → (l.length + m.length) * Tryz.prog.bytesOf 3 ≤ reachBytes := fun l m hd => sized_slice hsz (j := 2) rfl (by rw [← hd]; rfl) Tryz.underlying72
  obtain ⟨φ2, g2, a2, n2, c2, l2, hr, ha, sub2, fr2, vr2, s2⟩ := Lg.in_slice (sz := 1) (good := (fun _ => True)) Go.Lg.encI_len (by omega) (fun a v hv => by
      simp only [Go.Lg.encI, List.mem_cons, List.not_mem_nil, or_false] at hv
      rcases hv with rfl <;> exact ⟨rfl, fun φ => by constructor⟩) Tryz.underlying72 (by kernel_rfl)
    (fun n cs x h => by
      obtain ⟨y, e, w⟩ := Lg.dec_int (k := .i64) Tryz.underlying3 h
      exact ⟨y, e, trivial⟩)
    (hval 2 72 v2 rfl rfl) h2 hz2 (of_decide_eq_true (by kernel_rfl)) hr ha
  obtain ⟨v, hh, hcall, hvt⟩ := Go.Lg.Tryz.Wakes.main g2 ((s0.fr fr1).fr fr2) (s1.fr fr2) s2
  have hvt : v = .bool true := hvt
  subst hvt
  have hok := Go.Lg.Tryz.O_ok 6 [.slice a0 n0 c0, .slice a1 n1 c1, .slice a2 n2 c2] _ _ hcall _ W [v0, v1, v2] hr (.cons ((vr0.mono sub1).mono sub2) (.cons (vr1.mono sub2) (.cons vr2 .nil)))
  refine hok.1.mono ?_
  rintro e W' ⟨φ', c, rfl, hg, hv⟩
  obtain rfl := Lg.vr_bool hv
  have bel : Below W.heap.size W W' := ⟨hg.fr.os, hg.fr.tape, hg.fr.output, hg.fr.size, fun k hk => hg.fr.block k hk (fun b t hb _ => ha b t hb)⟩
  exact ⟨_, rfl, _, _, _, [], _, [], hW', trodAll_mk1 (shut_bool Tryz.underlying4 _), Lg.all_stays laid (by kernel_rfl) hAll (fun x hx => bel.same (hlt x (List.mem_append_left _ hx))) (fun x hx => decide_eq_true (hlt x (List.mem_append_left _ hx))), rfl, bel.frame _, fun h => by cases h⟩
theorem over : Rows.waitWakesRow.holds Tryz.pinned (OpenSpec.ofChange Rows.waitWakesSpec) :=
  OpenClaim.holds_of_wide 6 Tryz.f6 rfl rfl rfl rfl rfl rfl rfl ⟨rfl, rfl, rfl, rfl, rfl⟩ rfl rfl rfl rfl rfl (by kernel_rfl) Tryz.func6 (by kernel_rfl)
    (of_decide_eq_true (by kernel_rfl)) (by unfold Func.isWrapper; first | (rw [if_pos (by decide +kernel)]; kernel_rfl) | (rw [if_neg (by decide +kernel)]; exact ⟨rfl, rfl⟩))
    (fun os started H enc _ => lifted os started H enc)
theorem proved : Rows.WaitWakesSaid := over
#print axioms proved
end Go.Proofs.YtodbjmagcelfjaaGreat.waitWakes
namespace Go.Proofs.YtodbjmagcelfjaaGreat
/-- The row, under a short name, for the claim. -/
theorem waitWakes_holds : Rows.WaitWakesSaid := waitWakes.proved
end Go.Proofs.YtodbjmagcelfjaaGreat
