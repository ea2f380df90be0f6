/- TableTells: whatever the memory and the schedule, and whatever the arguments, the call returns true, and nothing that was there has turned. It has no conditions. -/
import Derived.Test.YtciiigaagggefaaRows
import Derived.Test.YtciiigaagggefaaPTableTells
import Derived.Test.YtciiigaagggefaaPokT
import Derived.Test.YtciiigaagggefaaEv38
import Derived.WalkKit
import Derived.ProofKit
import Derived.OpenShut
import Derived.ShutString
import Derived.ChangeOld
import Derived.Below
import Derived.SizedLaws
namespace Go.Proofs.Ytciiigaagggefaa.tableTells
open Go.ChangeShapes Go.WideShapes Go.ChangeAt Go.RowKit
open Go.ChangeMaps (open_string shut_string)
set_option linter.unusedVariables false
theorem own : ownKnob Try.prog.godebug = none := by kernel_rfl
theorem laid : laidOutB Try.prog = true := by kernel_rfl
set_option maxRecDepth 100000 in
theorem lifted (os : Os) (started : os.Started) (H : Type) (enc : TypeId × Value → H) :
    ReturnsInHanded {} Try.checked os 4 .any (Rows.tableTellsSpec.pre6 enc Try.prog Try.f4 Rows.tableTellsRow.domain false) (Rows.tableTellsSpec.post enc Try.prog Try.f4 false true false false) := by
  refine returnsInHanded_of_change_sized (C := Try.checked) own started (by kernel_rfl) Try.func4
    (ChangeSpec.witness6 (enc := enc) (C := Try.checked) false ⟨#[], #[.int .i64 0, .int .i64 0, .slice none 0 0], []⟩ 8 (by kernel_rfl) (by kernel_rfl) (by kernel_rfl) (by kernel_rfl)) ?_
  intro W base args ds gs before hval0 hW hcnd hsz _
  have hval : ∀ (j : Nat) t v, Try.f4.params[j]? = some t → args[j]? = some v → Value.okWide Try.prog W .any base t v := hval0
  have hlt := hW.lt
  have hW' := hW
  obtain ⟨p, q, hA0, hV, rfl, hfz, hnd⟩ := hW
  have hA : DataW.TrodAll enc Try.prog W 0 (fun _ => true) true Try.f4.params.toList args.toList ds p := hA0
  have hAll := hA
  rw [Try.params4] at hA hval
  obtain ⟨v0, vs0, d0, ds0, p0, q0, hargs, rfl, rfl, h0, r0⟩ := trodAll_cons hA
  obtain ⟨v1, vs1, d1, ds1, p1, q1, rfl, rfl, rfl, h1, r1⟩ := trodAll_cons r0
  obtain ⟨v2, vs2, d2, ds2, p2, q2, rfl, rfl, rfl, h2, r2⟩ := trodAll_cons r1
  obtain ⟨rfl, rfl, rfl⟩ := trodAll_nil r2
  obtain rfl : args = #[v0, v1, v2] := by cases args; simp_all
  obtain ⟨rfl, rfl⟩ := trodVars_none hV
  have hr := Lg.empty_rel W
  have ha := Lg.AllRo.empty
  obtain ⟨a0, rfl, hd0, hp0, w0⟩ := open_int Try.underlying3 (hval 0 3 v0 rfl rfl) h0
  obtain ⟨a1, rfl, hd1, hp1, w1⟩ := open_int Try.underlying3 (hval 1 3 v1 rfl rfl) h1
  have hz2 : ∀ l m, d2 = .slice l m → (l.length + m.length) * Try.prog.bytesOf 46 ≤ reachBytes := fun l m hd => sized_slice hsz (j := 2) rfl (by rw [← hd]; rfl) Try.underlying41
  obtain ⟨φ2, g2, a2, n2, c2, l2, hr, ha, sub2, fr2, vr2, s2⟩ := Lg.in_slice (sz := 3) (good := (fun _ => True)) Go.Lg.Try.Tab.encOp_len (by omega) (fun a v hv => by
      simp only [Go.Lg.Try.Tab.encOp, List.mem_cons, List.not_mem_nil, or_false] at hv
      rcases hv with rfl | rfl | rfl <;> exact ⟨rfl, fun φ => by constructor⟩) Try.underlying41 (by kernel_rfl)
    (fun n cs x h => by
      obtain ⟨hl, hf⟩ := Lg.dec_fields (P := Try.prog) Try.underlying46 (by kernel_rfl) (by kernel_rfl) h
      obtain ⟨x0, x1, x2, rfl⟩ : ∃ x0 x1 x2 : Value, cs = [x0, x1, x2] := by
        match cs, hl with
        | [x0, x1, x2], _ => exact ⟨x0, x1, x2, rfl⟩
      obtain ⟨_, _, _, c0, t0⟩ := hf 0 _ rfl
      obtain rfl := Option.some.inj c0
      obtain ⟨y0, e0, w0⟩ := Lg.dec_int (k := .i64) (by kernel_rfl) t0
      obtain rfl := (List.cons.inj e0).1
      obtain ⟨_, _, _, c1, t1⟩ := hf 1 _ rfl
      obtain rfl := Option.some.inj c1
      obtain ⟨y1, e1⟩ := Lg.dec_string (by kernel_rfl) t1
      obtain rfl := (List.cons.inj e1).1
      obtain ⟨_, _, _, c2, t2⟩ := hf 2 _ rfl
      obtain rfl := Option.some.inj c2
      obtain ⟨y2, e2⟩ := Lg.dec_string (by kernel_rfl) t2
      obtain rfl := (List.cons.inj e2).1
      exact ⟨Go.Lg.Try.Tab.Op3.mk y0 y1 y2, rfl, trivial⟩)
    (hval 2 41 v2 rfl rfl) h2 hz2 (of_decide_eq_true (by kernel_rfl)) hr ha
  obtain ⟨v, hh, hcall, hvt⟩ := Go.Lg.Try.Tab.Tells_main g2 a0 w0 a1 w1 s2
  have hvt : v = .bool true := hvt
  subst hvt
  have hok := Go.Lg.Try.O_ok 4 [.int .i64 a0, .int .i64 a1, .slice a2 n2 c2] _ _ hcall _ W [.int .i64 a0, .int .i64 a1, v2] hr (.cons (.int _ _) (.cons (.int _ _) (.cons vr2 .nil)))
  refine hok.1.mono ?_
  rintro e W' ⟨φ', c, rfl, hg, hv⟩
  obtain rfl := Lg.vr_bool hv
  have bel : Below W.heap.size W W' := ⟨hg.fr.os, hg.fr.tape, hg.fr.output, hg.fr.size, fun k hk => hg.fr.block k hk (fun b t hb _ => ha b t hb)⟩
  exact ⟨_, rfl, _, _, _, [], _, [], hW', trodAll_mk1 (shut_bool Try.underlying4 _), Lg.all_stays laid (by kernel_rfl) hAll (fun x hx => bel.same (hlt x (List.mem_append_left _ hx))) (fun x hx => decide_eq_true (hlt x (List.mem_append_left _ hx))), rfl, bel.frame _, fun h => by cases h⟩
theorem c_wf : (Rows.tableTellsRow.wf (OpenSpec.ofChange Rows.tableTellsSpec)) = true := by kernel_rfl
theorem c_laid : (laidOutB Try.pinned.checked.prog) = true := by kernel_rfl
theorem c_rowed : (mapsRowed Try.pinned.checked.prog) = true := by kernel_rfl
theorem c_inPlace : (Rows.tableTellsRow.inPlace == Try.pinned.checked.prog.inPlace 4) = true := by kernel_rfl
theorem c_unf : (Rows.tableTellsRow.unfollowed == Try.pinned.checked.prog.unfollowed 4) = true := by kernel_rfl
theorem c_rec : (Rows.tableTellsRow.recurses == Try.pinned.checked.prog.recurses 4) = true := by kernel_rfl
theorem c_named : (Rows.tableTellsRow.named == Try.pinned.checked.prog.varsNamed 4) = true := by kernel_rfl
theorem c_plainKeys : (Rows.tableTellsRow.plainKeys == Try.pinned.checked.prog.plainKeys) = true := by kernel_rfl
theorem c_stopsHeard : (Try.pinned.checked.prog.stopsHeard) = true := by kernel_rfl
theorem c_mayEnter : (Try.pinned.checked.prog.mayEnter) = true := by kernel_rfl
theorem c_lifted : (Rows.tableTellsRow.lifted == Try.pinned.checked.prog.liftsFinal) = true := by kernel_rfl
theorem c_make : (Try.pinned.checked.prog.make == some Rows.tableTellsRow.make) = true := by kernel_rfl
theorem c_all : joinedFacts Try.pinned.checked.prog 4 Try.f4 Rows.tableTellsSpec Rows.tableTellsRow = true := by
  unfold joinedFacts
  rw [c_wf, c_laid, c_rowed, c_inPlace, c_unf, c_rec, c_named, c_plainKeys, c_stopsHeard, c_mayEnter, c_lifted, c_make]
  kernel_rfl
theorem over : Rows.tableTellsRow.holds Try.pinned (OpenSpec.ofChange Rows.tableTellsSpec) :=
  OpenClaim.holds_of_wide 4 Try.f4 rfl rfl rfl rfl rfl rfl rfl ⟨rfl, rfl, rfl, rfl, rfl⟩ rfl rfl rfl rfl rfl (by kernel_rfl) Try.func4 c_all
    (of_decide_eq_true (by kernel_rfl)) (by unfold Func.isWrapper; first | (rw [if_pos (by decide +kernel)]; kernel_rfl) | (rw [if_neg (by decide +kernel)]; exact ⟨rfl, rfl⟩))
    (fun os started H enc _ => lifted os started H enc)
theorem proved : Rows.TableTellsSaid := over
#print axioms proved
end Go.Proofs.Ytciiigaagggefaa.tableTells
namespace Go.Proofs.Ytciiigaagggefaa
/-- The row, under a short name, for the claim. -/
theorem tableTells_holds : Rows.TableTellsSaid := tableTells.proved
end Go.Proofs.Ytciiigaagggefaa
