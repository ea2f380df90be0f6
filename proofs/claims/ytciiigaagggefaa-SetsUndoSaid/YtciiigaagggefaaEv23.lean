/- Soundness of the evaluator. Part 23: deferred calls. -/
import Derived.Test.YtciiigaagggefaaEv12
import Derived.Tactics
namespace Go.Lg
open Go

section
variable {P : Program}

/-- the deferred calls of a function that runs as a deferred call itself -/
theorem leaves_stepsD {fn : Func} {tmps : Array Value} {R : Ending → World → Prop} : ∀ (ds : List Deferred) (u : FrameMode) (w : World) (fr : Frame)
    (cs : List Frame), fr.mode = u → fr.defers = ds → fr.tmps = tmps → P.funcs[fr.fn]? = some fn → fr.kind = .deferred → Leaves P fn tmps R ds u w →
    ∃ e w' fr', R e w' ∧ Comes P (lone fr cs w) (lone fr' cs w') e ∧ fr'.kind = .deferred ∧ fr'.going P w' e := by
  intro ds
  induction ds with
  | nil =>
    intro u w fr cs hu hd ht hf hk h
    cases u with
    | run => exact h.elim
    | returning =>
      obtain ⟨v, hr, hR⟩ := h
      exact ⟨.returned v, w, fr, hR, Steps.refl P _, hk, hu, hd, fn, hf, ht ▸ hr⟩
    | panicking chain => exact ⟨.panicked chain, w, fr, h, Steps.refl P _, hk, hu, hd, fn, hf⟩
  | cons d ds ih =>
    intro u w fr cs hu hd ht hf hk h
    obtain ⟨hrun, fv, cap, f, args, htar, hinv, hcall⟩ := h
    have h1 := step_defer (cs := cs) (hu ▸ hrun) hd htar hinv
    obtain ⟨e, u', w', frX, hR, hsteps, hkX, hgo⟩ := hcall { fr with defers := ds } cs hu
    cases e with
    | returned v =>
      have h2 := step_going_returned (c := { { fr with defers := ds } with mode := u' }) (cs := cs) hkX hgo
      obtain ⟨e', w'', fr', hR', hs', hfn', hl'⟩ := ih (settle u') w' { { { fr with defers := ds } with mode := u' } with mode := settle u' } cs rfl rfl ht hf hk hR
      exact ⟨e', w'', fr', hR', Comes.of_steps (.head h1 (Steps.trans hsteps (.one h2))) hs', hfn', hl'⟩
    | panicked chain =>
      have h2 := step_going_panicked (c := { { fr with defers := ds } with mode := u' }) (cs := cs) hgo
      obtain ⟨e', w'', fr', hR', hs', hfn', hl'⟩ := ih (raised u' chain) w' { { { fr with defers := ds } with mode := u' } with mode := raised u' chain } cs rfl rfl ht hf hk hR
      exact ⟨e', w'', fr', hR', Comes.of_steps (.head h1 (Steps.trans hsteps (.one h2))) hs', hfn', hl'⟩
    | outgrown => exact ⟨.outgrown, w', fr, hR, Outgrown.of_steps (.one h1) hsteps, hk, trivial⟩

theorem callsD_of_wp_defers {f : FuncId} {fn : Func} {c : Code} {args : Array Value} {u : FrameMode} {w : World} {R : Ending → World → Prop}
    (hf : P.funcs[f]? = some fn) (hb : fn.body = some c)
    (h : c.wp P (bodyPostD P fn R) { tmps := args ++ Array.replicate (fn.ntmps - args.size) undef, defers := [] } w) :
    CallsD P f args u w fun e u' w' => u' = u ∧ R e w' := by
  intro c₀ cs hu
  let b : Frame := { (default : Frame) with fn := f, kind := .deferred }
  have henter : Frame.enter P f args .deferred =
      b.at { tmps := args ++ Array.replicate (fn.ntmps - args.size) undef, defers := [] } [.code c] := by
    simp [Frame.enter, Frame.at, hf, hb, b]
  have hc : ({ c₀ with mode := u } : Frame) = c₀ := by subst hu; rfl
  obtain ⟨e, a', w', hq, harr⟩ := h b [] (c₀ :: cs)
  rw [← henter] at harr
  cases e with
  | normal =>
    obtain ⟨e', w'', fr', hR, hs, hfn, hl⟩ := leaves_stepsD a'.defers .returning w' { b.at a' [] with mode := .returning } (c₀ :: cs) rfl rfl rfl hf rfl hq
    exact ⟨e', u, w'', fr', ⟨rfl, hR⟩, (by rw [hc]; exact Comes.of_steps (Steps.trans harr (.one step_end)) hs), hfn, hl⟩
  | ret =>
    obtain ⟨todo, hs₀⟩ := harr
    obtain ⟨e', w'', fr', hR, hs, hfn, hl⟩ := leaves_stepsD a'.defers .returning w' { b.at a' todo with mode := .returning } (c₀ :: cs) rfl rfl rfl hf rfl hq
    exact ⟨e', u, w'', fr', ⟨rfl, hR⟩, (by rw [hc]; exact Comes.of_steps hs₀ hs), hfn, hl⟩
  | panic chain =>
    obtain ⟨todo, hs₀⟩ := harr
    obtain ⟨e', w'', fr', hR, hs, hfn, hl⟩ := leaves_stepsD a'.defers (.panicking chain) w' { b.at a' todo with mode := .panicking chain } (c₀ :: cs) rfl rfl rfl hf rfl hq
    exact ⟨e', u, w'', fr', ⟨rfl, hR⟩, (by rw [hc]; exact Comes.of_steps hs₀ hs), hfn, hl⟩
  | exit id => exact hq.elim
  | goto l => exact hq.elim
  | outgrown => exact ⟨.outgrown, u, w', b, ⟨rfl, hq⟩, harr.resolve_left (by simp [b]), rfl, trivial⟩

/-- what an exit's condition owes: the deferred calls run at the end -/
def DClosed (P : Program) (Q : Exit → Act → World → Prop) : Prop :=
  ∀ (a : Act) (w : World) (fv : Fn) (cap dargs : Array Value) (ds : List Deferred) (f : FuncId) (args : Array Value), a.defers = { target := .fn fv cap, args := dargs } :: ds →
    (invoke (.fn fv cap) dargs).run P w = .ok (.enter f args) w →
    CallsD P f args .returning w (fun e u w2 => u = .returning ∧ ∃ c, e = .returned c ∧ Q .ret { a with defers := ds } w2) → Q .ret a w

theorem bodyPostD_closed {fn : Func} {R : Ending → World → Prop} : DClosed P (bodyPostD P fn R) := by
  intro a w fv cap dargs ds f args hd hi hc
  show Leaves P fn a.tmps R a.defers .returning w
  rw [hd]
  refine leaves_cons (by simp) hi (hc.mono ?_)
  rintro e u w2 ⟨rfl, c, rfl, hq⟩
  exact hq

theorem run_callFunc {f : FuncId} (hb : hasBody P f = true) (xs : Array Value) (w : World) : (callFunc f xs).run P w = .ok (.enter f xs) w := by
  unfold hasBody at hb
  split at hb
  · rename_i fn hf
    simp only [Bool.and_eq_true, Bool.not_eq_true'] at hb
    have h2 := hb.2
    rw [beq_eq_false_iff_ne] at h2
    cases hbb : fn.body with
    | none => rw [hbb] at hb; simp at hb
    | some c => simp [callFunc, hf, hbb, h2]
  · cases hb

theorem splitD_inv : ∀ {l pre : List Oper} {x : Tmp}, splitD l = some (pre, x) → ∃ o c, l = pre ++ [o] ∧ o.dst = none ∧ o.guard = none ∧ o.op = .defer c ∧ c.callee = .value (.tmp x) ∧ c.args.toList = []
  | [], _, _, h => by cases h
  | [o], pre, x, h => by
    simp only [splitD] at h
    split at h
    · rename_i c hd ho hg
      split at h
      · rename_i y hc ha
        simp only [Option.some.injEq, Prod.mk.injEq] at h
        obtain ⟨rfl, rfl⟩ := h
        exact ⟨o, c, rfl, hd, hg, ho, hc, ha⟩
      · cases h
    · cases h
  | o :: o2 :: rest, pre, x, h => by
    unfold splitD at h
    simp only [Option.bind_eq_some_iff] at h
    obtain ⟨⟨p, y⟩, h1, h2⟩ := h
    simp only [Option.some.injEq, Prod.mk.injEq] at h2
    obtain ⟨rfl, rfl⟩ := h2
    obtain ⟨o', c, e, rest'⟩ := splitD_inv h1
    exact ⟨o', c, by rw [e]; rfl, rest'⟩
end
end Go.Lg
