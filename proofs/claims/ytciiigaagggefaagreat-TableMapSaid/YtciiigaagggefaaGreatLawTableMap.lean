/- TableMap: whatever the memory and the schedule, and whatever the arguments, the call returns true, and nothing that was there has turned. It has no conditions. -/
import Derived.Test.YtciiigaagggefaaGreatRows
import Derived.Test.YtciiigaagggefaaGreatPTableMap
import Derived.Test.YtciiigaagggefaaGreatPokU
import Derived.Test.YtciiigaagggefaaGreatEv38
import Derived.WalkKit
import Derived.ProofKit
import Derived.OpenShut
import Derived.ShutString
import Derived.ChangeOld
import Derived.Below
import Derived.SizedLaws
namespace Go.Proofs.YtciiigaagggefaaGreat.tableMap
open Go.ChangeShapes Go.WideShapes Go.ChangeAt Go.RowKit
open Go.ChangeMaps (open_string shut_string)
set_option linter.unusedVariables false
theorem own : ownKnob Tryz.prog.godebug = none := by kernel_rfl
theorem laid : laidOutB Tryz.prog = true := by kernel_rfl
set_option maxRecDepth 100000 in
theorem lifted (os : Os) (started : os.Started) (H : Type) (enc : TypeId × Value → H) :
    ReturnsInHanded {} Tryz.checked os 3 .any (Rows.tableMapSpec.pre6 enc Tryz.prog Tryz.f3 Rows.tableMapRow.domain false) (Rows.tableMapSpec.post enc Tryz.prog Tryz.f3 false true false false) := by
  refine returnsInHanded_of_change_sized (C := Tryz.checked) own started (by kernel_rfl) Tryz.func3
    (ChangeSpec.witness6 (enc := enc) (C := Tryz.checked) false ⟨#[], #[.slice none 0 0, .int .i64 0], []⟩ 8 (by kernel_rfl) (by kernel_rfl) (by kernel_rfl) (by kernel_rfl)) ?_
  intro W base args ds gs before hval0 hW hcnd hsz _
  have hval : ∀ (j : Nat) t v, Tryz.f3.params[j]? = some t → args[j]? = some v → Value.okWide Tryz.prog W .any base t v := hval0
  have hlt := hW.lt
  have hW' := hW
  obtain ⟨p, q, hA0, hV, rfl, hfz, hnd⟩ := hW
  have hA : DataW.TrodAll enc Tryz.prog W 0 (fun _ => true) true Tryz.f3.params.toList args.toList ds p := hA0
  have hAll := hA
  rw [Tryz.params3] at hA hval
  obtain ⟨v0, vs0, d0, ds0, p0, q0, hargs, rfl, rfl, h0, r0⟩ := trodAll_cons hA
  obtain ⟨v1, vs1, d1, ds1, p1, q1, rfl, rfl, rfl, h1, r1⟩ := trodAll_cons r0
  obtain ⟨rfl, rfl, rfl⟩ := trodAll_nil r1
  obtain rfl : args = #[v0, v1] := by cases args; simp_all
  obtain ⟨rfl, rfl⟩ := trodVars_none hV
  have hr := Lg.empty_rel W
  have ha := Lg.AllRo.empty
  have hz0 : ∀ l m, d0 = .slice l m → (l.length + m.length) * Tryz.prog.bytesOf 37 ≤ reachBytes := fun l m hd => sized_slice hsz (j := 0) rfl (by rw [← hd]; rfl) Tryz.underlying22
  obtain ⟨φ0, g0, a0, n0, c0, l0, hr, ha, sub0, fr0, vr0, s0⟩ := Lg.in_slice (sz := 3) (good := (fun _ => True)) Go.Lg.Tryz.Tab.encOp_len (by omega) (fun a v hv => by
      simp only [Go.Lg.Tryz.Tab.encOp, List.mem_cons, List.not_mem_nil, or_false] at hv
      rcases hv with rfl | rfl | rfl <;> exact ⟨rfl, fun φ => by constructor⟩) Tryz.underlying22 (by kernel_rfl)
    (fun n cs x h => by
      obtain ⟨hl, hf⟩ := Lg.dec_fields (P := Tryz.prog) Tryz.underlying37 (by kernel_rfl) (by kernel_rfl) h
      obtain ⟨x0, x1, x2, rfl⟩ : ∃ x0 x1 x2 : Value, cs = [x0, x1, x2] := by
        match cs, hl with
        | [x0, x1, x2], _ => exact ⟨x0, x1, x2, rfl⟩
      obtain ⟨_, _, _, c0, t0⟩ := hf 0 _ rfl
      obtain rfl := Option.some.inj c0
      obtain ⟨y0, e0, w0⟩ := Lg.dec_int (k := .i64) (by kernel_rfl) t0
      obtain rfl := (List.cons.inj e0).1
      obtain ⟨_, _, _, c1, t1⟩ := hf 1 _ rfl
      obtain rfl := Option.some.inj c1
      obtain ⟨y1, e1⟩ := Lg.dec_string (by kernel_rfl) t1
      obtain rfl := (List.cons.inj e1).1
      obtain ⟨_, _, _, c2, t2⟩ := hf 2 _ rfl
      obtain rfl := Option.some.inj c2
      obtain ⟨y2, e2⟩ := Lg.dec_string (by kernel_rfl) t2
      obtain rfl := (List.cons.inj e2).1
      exact ⟨Go.Lg.Tryz.Tab.Op3.mk y0 y1 y2, rfl, trivial⟩)
    (hval 0 22 v0 rfl rfl) h0 hz0 (of_decide_eq_true (by kernel_rfl)) hr ha
  obtain ⟨a1, rfl, hd1, hp1, w1⟩ := open_int Tryz.underlying3 (hval 1 3 v1 rfl rfl) h1
  obtain ⟨v, hh, hcall, hvt⟩ := Go.Lg.Tryz.Tab.Map_main g0 s0 a1 w1
  have hvt : v = .bool true := hvt
  subst hvt
  have hok := Go.Lg.Tryz.O_ok 3 [.slice a0 n0 c0, .int .i64 a1] _ _ hcall _ W [v0, .int .i64 a1] hr (.cons vr0 (.cons (.int _ _) .nil))
  refine hok.1.mono ?_
  rintro e W' ⟨φ', c, rfl, hg, hv⟩
  obtain rfl := Lg.vr_bool hv
  have bel : Below W.heap.size W W' := ⟨hg.fr.os, hg.fr.tape, hg.fr.output, hg.fr.size, fun k hk => hg.fr.block k hk (fun b t hb _ => ha b t hb)⟩
  exact ⟨_, rfl, _, _, _, [], _, [], hW', trodAll_mk1 (shut_bool Tryz.underlying4 _), Lg.all_stays laid (by kernel_rfl) hAll (fun x hx => bel.same (hlt x (List.mem_append_left _ hx))) (fun x hx => decide_eq_true (hlt x (List.mem_append_left _ hx))), rfl, bel.frame _, fun h => by cases h⟩
theorem c_wf : (Rows.tableMapRow.wf (OpenSpec.ofChange Rows.tableMapSpec)) = true := by kernel_rfl
theorem c_laid : (laidOutB Tryz.pinned.checked.prog) = true := by kernel_rfl
theorem c_rowed : (mapsRowed Tryz.pinned.checked.prog) = true := by kernel_rfl
theorem c_inPlace : (Rows.tableMapRow.inPlace == Tryz.pinned.checked.prog.inPlace 3) = true := by kernel_rfl
theorem c_unf : (Rows.tableMapRow.unfollowed == Tryz.pinned.checked.prog.unfollowed 3) = true := by kernel_rfl
theorem c_rec : (Rows.tableMapRow.recurses == Tryz.pinned.checked.prog.recurses 3) = true := by kernel_rfl
theorem c_named : (Rows.tableMapRow.named == Tryz.pinned.checked.prog.varsNamed 3) = true := by kernel_rfl
theorem c_plainKeys : (Rows.tableMapRow.plainKeys == Tryz.pinned.checked.prog.plainKeys) = true := by kernel_rfl
theorem c_stopsHeard : (Tryz.pinned.checked.prog.stopsHeard) = true := by kernel_rfl
theorem c_mayEnter : (Tryz.pinned.checked.prog.mayEnter) = true := by kernel_rfl
theorem c_lifted : (Rows.tableMapRow.lifted == Tryz.pinned.checked.prog.liftsFinal) = true := by kernel_rfl
theorem c_make : (Tryz.pinned.checked.prog.make == some Rows.tableMapRow.make) = true := by kernel_rfl
theorem c_all : joinedFacts Tryz.pinned.checked.prog 3 Tryz.f3 Rows.tableMapSpec Rows.tableMapRow = true := by
  unfold joinedFacts
  rw [c_wf, c_laid, c_rowed, c_inPlace, c_unf, c_rec, c_named, c_plainKeys, c_stopsHeard, c_mayEnter, c_lifted, c_make]
  kernel_rfl
theorem over : Rows.tableMapRow.holds Tryz.pinned (OpenSpec.ofChange Rows.tableMapSpec) :=
  OpenClaim.holds_of_wide 3 Tryz.f3 rfl rfl rfl rfl rfl rfl rfl ⟨rfl, rfl, rfl, rfl, rfl⟩ rfl rfl rfl rfl rfl (by kernel_rfl) Tryz.func3 c_all
    (of_decide_eq_true (by kernel_rfl)) (by unfold Func.isWrapper; first | (rw [if_pos (by decide +kernel)]; kernel_rfl) | (rw [if_neg (by decide +kernel)]; exact ⟨rfl, rfl⟩))
    (fun os started H enc _ => lifted os started H enc)
theorem proved : Rows.TableMapSaid := over
#print axioms proved
end Go.Proofs.YtciiigaagggefaaGreat.tableMap
namespace Go.Proofs.YtciiigaagggefaaGreat
/-- The row, under a short name, for the claim. -/
theorem tableMap_holds : Rows.TableMapSaid := tableMap.proved
end Go.Proofs.YtciiigaagggefaaGreat
