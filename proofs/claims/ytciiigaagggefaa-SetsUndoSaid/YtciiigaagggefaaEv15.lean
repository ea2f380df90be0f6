/- A region that draws its order: operations that only compute, or only read. -/
import Derived.Test.YtciiigaagggefaaEv14
namespace Go.Lg
open Go

theorem pure_shift {P : Program} {O : Orc} {tm : T Value} {op : Op} (hp : isPure op = true) (h h2 : AH) (K : Option Value → AH → Res) : evOp P O tm op h K = evOp P O tm op h2 (fun v _ => K v h) := by
  cases op <;> first
    | rfl
    | (simp [isPure] at hp; done)
theorem read_shift {P : Program} {O : Orc} {tm : T Value} {op : Op} (hp : isRead op = true) (h : AH) (K : Option Value → AH → Res) : evOp P O tm op h K = evOp P O tm op h (fun v _ => K v h) := by
  cases op <;> first
    | (simp [isRead] at hp; done)
    | rfl
    | skip
  case call c =>
    obtain ⟨cl, args, ats⟩ := c
    cases cl with
    | builtin b => cases b <;> first | (simp [isRead] at hp; done) | skip
                   all_goals
                     simp only [evOp]
                     generalize ats.toList = l1
                     generalize args.toList = l2
                     rcases l1 with _ | ⟨t, _ | ⟨_, _⟩⟩ <;> rcases l2 with _ | ⟨x, _ | ⟨y, _ | ⟨_, _⟩⟩⟩ <;> rfl
    | _ => simp [isRead] at hp

theorem Runs.pure {P : Program} {O : Orc} {tm : T Value} {op : Op} {h h' : AH} {v : Option Value} (hp : isPure op = true) (hr : Runs P O tm op h v h') : h' = h ∧ ∀ h2, Runs P O tm op h2 v h2 := by
  refine ⟨heap_of_shift (v := v) fun K => ?_, fun h2 K => ?_⟩
  · rw [← hr K, pure_shift hp h h K, hr]
  · rw [pure_shift hp h2 h K, hr]
theorem Runs.read {P : Program} {O : Orc} {tm : T Value} {op : Op} {h h' : AH} {v : Option Value} (hp : isRead op = true) (hr : Runs P O tm op h v h') : h' = h := by
  refine heap_of_shift (v := v) fun K => ?_
  rw [← hr K, read_shift hp h K, hr]

theorem opvs_congr {tm tm' : T Value} : ∀ {xs : List Operand}, (∀ x ∈ xs, opv tm x = opv tm' x) → opvs tm xs = opvs tm' xs
  | [], _ => rfl
  | x :: xs, h => by
    simp only [opvs]
    rw [h x (by simp), opvs_congr fun y hy => h y (by simp [hy])]
theorem opParts_congr {tm tm' : T Value} : ∀ {xs : List (Nat × Operand)}, (∀ x ∈ xs.map (·.2), opv tm x = opv tm' x) → opParts tm xs = opParts tm' xs
  | [], _ => rfl
  | (i, x) :: xs, h => by
    simp only [opParts]
    rw [h x (by simp), opParts_congr fun y hy => h y (by simp only [List.map_cons, List.mem_cons]; exact .inr hy)]
theorem optv_congr {tm tm' : T Value} {x : Option Operand} (h : ∀ y, x = some y → opv tm y = opv tm' y) : optv tm x = optv tm' x := by
  cases x with
  | none => rfl
  | some y => simp only [optv]; rw [h y rfl]

theorem evOp_congr {P : Program} {O : Orc} {tm tm' : T Value} (op : Op) (hx : ∀ x ∈ op.operands, opv tm x = opv tm' x) (h : AH) (K : Option Value → AH → Res) : evOp P O tm op h K = evOp P O tm' op h K := by
  cases op with
  | build t ps => simp only [evOp]; rw [opParts_congr fun x hm => hx x (by simpa [Op.operands] using hm)]
  | buildSlice t n ps => simp only [evOp]; rw [opParts_congr fun x hm => hx x (by simpa [Op.operands] using hm)]
  | makeFunc fn xs ys =>
    simp only [evOp]
    rw [opvs_congr (xs := xs.toList) fun x hm => hx x (by simp [Op.operands] at hm ⊢; exact .inl hm), opvs_congr (xs := ys.toList) fun x hm => hx x (by simp [Op.operands] at hm ⊢; exact .inr hm)]
  | slice t x lo hi mx =>
    simp only [evOp]
    rw [hx x (by simp [Op.operands]), optv_congr (x := lo) fun y hy => hx y (by subst hy; simp [Op.operands]), optv_congr (x := hi) fun y hy => hx y (by subst hy; simp [Op.operands]),
      optv_congr (x := mx) fun y hy => hx y (by subst hy; simp [Op.operands])]
  | makeMap t x => simp only [evOp]; rw [optv_congr (x := x) fun y hy => hx y (by subst hy; simp [Op.operands])]
  | call c =>
    obtain ⟨cl, args, ats⟩ := c
    have hargs : ∀ x ∈ args.toList, opv tm x = opv tm' x := fun x hm => hx x (by simp [Op.operands, Call.operands]; exact .inr (by simpa using hm))
    have hc : calleeOf P tm cl = calleeOf P tm' cl := by
      cases cl with
      | value f =>
        have := hx f (by simp [Op.operands, Call.operands])
        cases f <;> simp only [calleeOf, this]
      | invoke r n => simp only [calleeOf]; rw [hx r (by simp [Op.operands, Call.operands])]
      | builtin b => rfl
    cases cl with
    | builtin b =>
      simp only [evOp]
      obtain ⟨args⟩ := args
      simp only at hargs ⊢
      unfold evBuiltin
      generalize ats.toList = l1
      rcases args with _ | ⟨x, _ | ⟨y, _ | ⟨z, rest⟩⟩⟩
      · cases b <;> rcases l1 with _ | ⟨_, _ | ⟨_, _ | ⟨_, _⟩⟩⟩ <;> rfl
      · have e := hargs x (by simp)
        cases b <;> rcases l1 with _ | ⟨_, _ | ⟨_, _ | ⟨_, _⟩⟩⟩ <;> first | rfl | simp only [e]
      · have e := hargs x (by simp)
        have e2 := hargs y (by simp)
        cases b <;> rcases l1 with _ | ⟨_, _ | ⟨_, _ | ⟨_, _⟩⟩⟩ <;> first | rfl | simp only [e, e2]
      · cases b <;> rcases l1 with _ | ⟨_, _ | ⟨_, _ | ⟨_, _⟩⟩⟩ <;> rfl
    | value f => simp only [evOp, calleeX_eq]; rw [hc, opvs_congr hargs]
    | invoke r n => simp only [evOp, calleeX_eq]; rw [hc, opvs_congr hargs]
  | _ =>
    simp only [Op.operands, List.mem_toArray, List.mem_cons, List.not_mem_nil, or_false, forall_eq_or_imp, forall_eq] at hx
    simp only [evOp, hx]
end Go.Lg
