/- The evaluator's limit: what some depth of calls and some number of rounds gives; a spec of it needs no count. -/
import Derived.Test.YtciiigaagggefaaEv20
namespace Go.Lg
set_option linter.unusedVariables false
open Go

/-- a family of results comes to a result -/
def App (X : Nat → Res) (x : Res) : Prop := ∀ r, x = some r → ∃ N, ∀ n, N ≤ n → X n = some r
theorem App.const (x : Res) : App (fun _ => x) x := fun _ h => ⟨0, fun _ _ => h⟩
theorem App.none (X : Nat → Res) : App X none := fun _ h => by cases h
theorem App.bindO {β : Type} (o : Option β) {X : Nat → β → Res} {x : β → Res} (h : ∀ b, App (fun n => X n b) (x b)) : App (fun n => o.bind (X n)) (o.bind x) := by
  cases o with
  | none => exact App.none _
  | some b => exact h b
theorem App.cond (b : Bool) {X Y : Nat → Res} {x y : Res} (hx : App X x) (hy : App Y y) : App (fun n => cond b (X n) (Y n)) (cond b x y) := by
  cases b
  · exact hy
  · exact hx
theorem App.bindR {X : Nat → Res} {x : Res} (hx : App X x) {Y : Nat → Value × AH → Res} {y : Value × AH → Res} (hy : ∀ p, App (fun n => Y n p) (y p)) : App (fun n => (X n).bind (Y n)) (x.bind y) := by
  intro r h
  cases hx0 : x with
  | none => rw [hx0] at h; cases h
  | some p =>
    rw [hx0] at h
    obtain ⟨N, hN⟩ := hx p hx0
    obtain ⟨M, hM⟩ := hy p r h
    refine ⟨max N M, fun n hn => ?_⟩
    show (X n).bind (Y n) = some r
    rw [hN n (by omega)]
    exact hM n (by omega)
theorem App.nat {α : Type} {m : (α → Res) → Res} (hm : Nat1 m) {Kf : Nat → α → Res} {K : α → Res} (hK : ∀ a, App (fun n => Kf n a) (K a)) : App (fun n => m (Kf n)) (m K) := by
  intro r h
  obtain ⟨x, h1, h2⟩ := hm K r h
  obtain ⟨N, hN⟩ := hK x r h1
  exact ⟨N, fun n hn => by show m (Kf n) = some r; rw [h2]; exact hN n hn⟩
theorem App.uniq {X : Nat → Res} {r r' : Value × AH} (h : ∃ N, ∀ n, N ≤ n → X n = some r) (h' : ∃ N, ∀ n, N ≤ n → X n = some r') : r = r' := by
  obtain ⟨N, hN⟩ := h
  obtain ⟨M, hM⟩ := h'
  have a := hN (max N M) (by omega)
  have b := hM (max N M) (by omega)
  rw [a] at b
  exact Option.some.inj b

/-- a family of oracles comes to an oracle -/
structure OApp (On : Nat → Orc) (O : Orc) : Prop where
  call : ∀ f args h, App (fun n => (On n).call f args h) (O.call f args h)
  loop : ∀ nt kp b tm h (Kf : Nat → Ex → T Value → AH → Res) (K : Ex → T Value → AH → Res), (∀ e tm h, App (fun n => Kf n e tm h) (K e tm h)) → App (fun n => (On n).loop nt kp b tm h (Kf n)) (O.loop nt kp b tm h K)
  code : ∀ nt kp b tm h (Kf : Nat → Ex → T Value → AH → Res) (K : Ex → T Value → AH → Res), (∀ e tm h, App (fun n => Kf n e tm h) (K e tm h)) → App (fun n => (On n).code nt kp b tm h (Kf n)) (O.code nt kp b tm h K)

section
variable {P : Program} {On : Nat → Orc} {O : Orc} {nt : Nat}

theorem evOp_orc (P : Program) (O O' : Orc) (tm : T Value) (op : Op) (h : AH) (K : Option Value → AH → Res) (hc : ∀ c, op = .call c → ∃ b, c.callee = .builtin b) : evOp P O tm op h K = evOp P O' tm op h K := by
  cases op with
  | call c =>
    obtain ⟨b, hb⟩ := hc c rfl
    obtain ⟨cl, args, ats⟩ := c
    obtain rfl : cl = .builtin b := hb
    rfl
  | _ => rfl

theorem app_evOp (hO : OApp On O) (tm : T Value) (op : Op) (h : AH) {Kf : Nat → Option Value → AH → Res} {K : Option Value → AH → Res} (hK : ∀ v h, App (fun n => Kf n v h) (K v h)) :
    App (fun n => evOp P (On n) tm op h (Kf n)) (evOp P O tm op h K) := by
  by_cases hc : ∀ c, op = .call c → ∃ b, c.callee = .builtin b
  · have e : (fun n => evOp P (On n) tm op h (Kf n)) = fun n => evOp P O tm op h (Kf n) := funext fun n => evOp_orc P _ _ tm op h _ hc
    rw [e]
    have := App.nat (m := un (evOp P O tm op h)) (nat_op P O tm op h) (Kf := fun n p => Kf n p.1 p.2) (K := fun p => K p.1 p.2) (fun p => hK p.1 p.2)
    exact this
  · simp only [Classical.not_forall] at hc
    obtain ⟨c, rfl, hb⟩ := hc
    obtain ⟨cl, args, ats⟩ := c
    have key : ∀ cl : Callee, App (fun n => (calleeX P tm cl).bind fun f => (opvs tm args.toList).bind fun vs => cond (hasBody P f.1) (((On n).call f.1 (f.2.1 ++ vs ++ f.2.2) h).bind fun r => Kf n (some r.1) r.2) none)
        ((calleeX P tm cl).bind fun f => (opvs tm args.toList).bind fun vs => cond (hasBody P f.1) ((O.call f.1 (f.2.1 ++ vs ++ f.2.2) h).bind fun r => K (some r.1) r.2) none) := fun cl =>
      App.bindO _ fun f => App.bindO _ fun vs => App.cond _ (App.bindR (hO.call _ _ _) fun r => hK _ _) (App.none _)
    cases cl with
    | builtin b => exact absurd ⟨b, rfl⟩ hb
    | value f => exact key (.value f)
    | invoke x n => exact key (.invoke x n)

theorem evOpX_orc (P : Program) (O O' : Orc) (tm : T Value) (ty : TypeId) (op : Op) (h : AH) (K : Option Value → AH → Res) (hc : ∀ c, op = .call c → ∃ b, c.callee = .builtin b) : evOpX P O tm ty op h K = evOpX P O' tm ty op h K := by
  cases op with
  | call c =>
    obtain ⟨b, hb⟩ := hc c rfl
    obtain ⟨cl, args, ats⟩ := c
    obtain rfl : cl = .builtin b := hb
    rfl
  | _ => rfl
theorem app_evOpX (hO : OApp On O) (tm : T Value) (ty : TypeId) (op : Op) (h : AH) {Kf : Nat → Option Value → AH → Res} {K : Option Value → AH → Res} (hK : ∀ v h, App (fun n => Kf n v h) (K v h)) :
    App (fun n => evOpX P (On n) tm ty op h (Kf n)) (evOpX P O tm ty op h K) := by
  by_cases hc : ∀ c, op = .call c → ∃ b, c.callee = .builtin b
  · have e : (fun n => evOpX P (On n) tm ty op h (Kf n)) = fun n => evOpX P O tm ty op h (Kf n) := funext fun n => evOpX_orc P _ _ tm ty op h _ hc
    rw [e]
    have := App.nat (m := un (evOpX P O tm ty op h)) (nat_opX P O tm ty op h) (Kf := fun n p => Kf n p.1 p.2) (K := fun p => K p.1 p.2) (fun p => hK p.1 p.2)
    exact this
  · simp only [Classical.not_forall] at hc
    obtain ⟨c, rfl, hb⟩ := hc
    obtain ⟨cl, args, ats⟩ := c
    have key : ∀ cl : Callee, App (fun n => (calleeX P tm cl).bind fun f => (opvs tm args.toList).bind fun vs => cond (hasBody P f.1) (((On n).call f.1 (f.2.1 ++ vs ++ f.2.2) h).bind fun r => castR P (tysOf P ty) r.1 fun v => Kf n (some v) r.2) none)
        ((calleeX P tm cl).bind fun f => (opvs tm args.toList).bind fun vs => cond (hasBody P f.1) ((O.call f.1 (f.2.1 ++ vs ++ f.2.2) h).bind fun r => castR P (tysOf P ty) r.1 fun v => K (some v) r.2) none) := fun cl =>
      App.bindO _ fun f => App.bindO _ fun vs => App.cond _ (App.bindR (hO.call _ _ _) fun r => App.nat (nat_castR P _ r.1) fun v => hK _ _) (App.none _)
    cases cl with
    | builtin b => exact absurd ⟨b, rfl⟩ hb
    | value f => exact key (.value f)
    | invoke x n => exact key (.invoke x n)

theorem app_put (tm : T Value) (dst : Option Tmp) (v : Option Value) {Kf : Nat → T Value → Res} {K : T Value → Res} (hK : ∀ tm, App (fun n => Kf n tm) (K tm)) :
    App (fun n => put nt tm dst v (Kf n)) (put nt tm dst v K) := by
  unfold put
  cases dst with
  | none => exact hK _
  | some d => exact App.cond _ (hK _) (App.none _)

theorem app_evOps (hO : OApp On O) (ops : List Oper) : ∀ (l : List Oper) (tm : T Value) (h : AH) {Kf : Nat → T Value → AH → Res} {K : T Value → AH → Res}, (∀ tm h, App (fun n => Kf n tm h) (K tm h)) →
    App (fun n => evOps P (On n) nt ops l tm h (Kf n)) (evOps P O nt ops l tm h K) := by
  intro l
  induction l with
  | nil => intro tm h Kf K hK; exact hK tm h
  | cons o rest ih =>
    intro tm h Kf K hK
    simp only [evOps]
    split
    · exact app_evOpX hO _ _ _ _ fun v h => app_put _ _ _ fun tm => ih _ _ hK
    · split
      · exact App.none _
      · split
        · refine App.cond _ (App.cond _ ?_ ?_) (App.cond _ ?_ ?_)
          · exact app_evOpX hO _ _ _ _ fun v h => app_put _ _ _ fun tm => ih _ _ hK
          · exact app_put _ _ _ fun tm => ih _ _ hK
          · exact app_put _ _ _ fun tm => ih _ _ hK
          · exact app_evOpX hO _ _ _ _ fun v h => app_put _ _ _ fun tm => ih _ _ hK
        · exact app_put _ _ _ fun tm => ih _ _ hK
        · exact App.none _

theorem all_app {β : Type} (l : List β) {X : Nat → β → Res} {x : β → Res} (h : ∀ b, App (fun n => X n b) (x b)) (hs : ∀ b ∈ l, (x b).isSome = true) : ∃ N, ∀ n, N ≤ n → l.map (X n) = l.map x := by
  induction l with
  | nil => exact ⟨0, fun _ _ => rfl⟩
  | cons b l ih =>
    obtain ⟨N, hN⟩ := ih fun b hb => hs b (by simp [hb])
    have hb := hs b (by simp)
    obtain ⟨r, hr⟩ := Option.isSome_iff_exists.mp hb
    obtain ⟨M, hM⟩ := h b r hr
    refine ⟨max N M, fun n hn => ?_⟩
    simp only [List.map_cons]
    rw [hN n (by omega), hr]
    have := hM n (by omega)
    simp only at this
    rw [this]

theorem app_allR {β : Type} (l : List β) {X : Nat → β → Res} {x : β → Res} (h : ∀ b, App (fun n => X n b) (x b)) : App (fun n => allR (l.map (X n))) (allR (l.map x)) := by
  intro r hr
  have hs : ∀ b ∈ l, (x b).isSome = true := fun b hb => by
    rw [allR_inv hr (x b) (List.mem_map_of_mem hb)]; rfl
  obtain ⟨N, hN⟩ := all_app l h hs
  exact ⟨N, fun n hn => by show allR (l.map (X n)) = some r; rw [hN n hn]; exact hr⟩

theorem app_evOpsS {S : SumEv} (hO : OApp On O) (ops : List Oper) : ∀ (l : List Oper) (tm : T Value) (h : AH) {Kf : Nat → T Value → AH → Res} {K : T Value → AH → Res}, (∀ tm h, App (fun n => Kf n tm h) (K tm h)) →
    App (fun n => evOpsS P S (On n) nt ops l tm h (Kf n)) (evOpsS P S O nt ops l tm h K) := by
  intro l
  induction l with
  | nil => intro tm h Kf K hK; exact hK tm h
  | cons o rest ih =>
    intro tm h Kf K hK
    simp only [evOpsS, sumK]
    split
    · exact app_allR _ fun q => App.nat (nat_castR P _ q.1) fun v => app_put _ _ _ fun tm => ih _ _ hK
    · exact app_evOps hO ops [o] tm h fun tm h => ih _ _ hK

theorem app_reck (hO : OApp On O) (tm : T Value) (op : Op) (v : Option Value) : ∀ (hs : List AH) {kf : Nat → Res} {k : Res}, App kf k → App (fun n => reck P (On n) tm op v hs (kf n)) (reck P O tm op v hs k) := by
  intro hs
  induction hs with
  | nil => intro kf k hk; exact hk
  | cons h hs ih => intro kf k hk; exact app_evOp hO _ _ _ fun v' _ => App.cond _ (ih hk) (App.none _)
theorem app_recheck (hO : OApp On O) (bit : Nat) (h : AH) : ∀ (ps : List Pend) {kf : Nat → Res} {k : Res}, App kf k → App (fun n => recheck P (On n) bit h ps (kf n)) (recheck P O bit h ps k) := by
  intro ps
  induction ps with
  | nil => intro kf k hk; exact hk
  | cons p ps ih => intro kf k hk; exact App.cond _ (ih hk) (app_evOp hO _ _ _ fun v' _ => App.cond _ (ih hk) (App.none _))

theorem app_evD (hO : OApp On O) (ops : List Oper) (bits : List Nat) : ∀ (l : List Oper) (i : Nat) (tm : T Value) (h : AH) (past : List AH) (pend : List Pend) {Kf : Nat → T Value → AH → Res} {K : T Value → AH → Res}, (∀ tm h, App (fun n => Kf n tm h) (K tm h)) →
    App (fun n => evD P (On n) nt ops bits l i tm h past pend (Kf n)) (evD P O nt ops bits l i tm h past pend K) := by
  intro l
  induction l with
  | nil => intro i tm h past pend Kf K hK; exact hK tm h
  | cons o rest ih =>
    intro i tm h past pend Kf K hK
    have run : ∀ tm : T Value, App (fun n => cond (isPure o.op) (evOpX P (On n) tm o.type o.op h fun v _ => put nt tm o.dst v fun tm => evD P (On n) nt ops bits rest (i + 1) tm h past pend (Kf n))
        (cond (isRead o.op)
          (evOp P (On n) tm o.op h fun v _ => reck P (On n) tm o.op v (past.take (past.length - cN (fun k => effAt ops k && (bits.getD i 0).testBit k) i))
            (put nt tm o.dst v fun tm' => evD P (On n) nt ops bits rest (i + 1) tm' h past (⟨i, o.op, tm, v⟩ :: pend) (Kf n)))
          (evOpX P (On n) tm o.type o.op h fun v h' => recheck P (On n) (bits.getD i 0) h' pend (put nt tm o.dst v fun tm => evD P (On n) nt ops bits rest (i + 1) tm h' (h :: past) pend (Kf n)))))
        (cond (isPure o.op) (evOpX P O tm o.type o.op h fun v _ => put nt tm o.dst v fun tm => evD P O nt ops bits rest (i + 1) tm h past pend K)
        (cond (isRead o.op)
          (evOp P O tm o.op h fun v _ => reck P O tm o.op v (past.take (past.length - cN (fun k => effAt ops k && (bits.getD i 0).testBit k) i))
            (put nt tm o.dst v fun tm' => evD P O nt ops bits rest (i + 1) tm' h past (⟨i, o.op, tm, v⟩ :: pend) K))
          (evOpX P O tm o.type o.op h fun v h' => recheck P O (bits.getD i 0) h' pend (put nt tm o.dst v fun tm => evD P O nt ops bits rest (i + 1) tm h' (h :: past) pend K)))) := fun tm =>
      App.cond _ (app_evOpX hO _ _ _ _ fun v _ => app_put _ _ _ fun tm => ih _ _ _ _ _ hK)
        (App.cond _ (app_evOp hO _ _ _ fun v _ => app_reck hO _ _ _ _ (app_put _ _ _ fun tm => ih _ _ _ _ _ hK))
          (app_evOpX hO _ _ _ _ fun v h' => app_recheck hO _ _ _ (app_put _ _ _ fun tm => ih _ _ _ _ _ hK)))
    have skip : ∀ tm : T Value, App (fun n => cond (isEff o) (recheck P (On n) (bits.getD i 0) h pend (put nt tm o.dst (some skipV) fun tm => evD P (On n) nt ops bits rest (i + 1) tm h (h :: past) pend (Kf n)))
          (put nt tm o.dst (some skipV) fun tm => evD P (On n) nt ops bits rest (i + 1) tm h past pend (Kf n)))
        (cond (isEff o) (recheck P O (bits.getD i 0) h pend (put nt tm o.dst (some skipV) fun tm => evD P O nt ops bits rest (i + 1) tm h (h :: past) pend K))
          (put nt tm o.dst (some skipV) fun tm => evD P O nt ops bits rest (i + 1) tm h past pend K)) := fun tm =>
      App.cond _ (app_recheck hO _ _ _ (app_put _ _ _ fun tm => ih _ _ _ _ _ hK)) (app_put _ _ _ fun tm => ih _ _ _ _ _ hK)
    simp only [evD]
    split
    · exact run tm
    · split
      · exact App.none _
      · split
        · exact App.cond _ (App.cond _ (run _) (skip _)) (App.cond _ (skip _) (run _))
        · exact skip _
        · exact App.none _

def DApp (D : DrawEv) : Prop := ∀ {On : Nat → Orc} {O : Orc}, OApp On O → ∀ (nt : Nat) (ops : Array Oper) (tm : T Value) (h : AH) {Kf : Nat → T Value → AH → Res} {K : T Value → AH → Res}, (∀ tm h, App (fun n => Kf n tm h) (K tm h)) →
    App (fun n => D (On n) nt ops tm h (Kf n)) (D O nt ops tm h K)
theorem draw_app (P : Program) : DApp (drawEv P) := by
  intro On O hO nt ops tm h Kf K hK
  unfold drawEv
  exact App.cond _ (App.cond _ (app_evOps hO _ _ _ _ hK) (app_evD hO _ _ _ _ _ _ _ _ hK)) (App.none _)

theorem app_evC {D : DrawEv} {S : SumEv} (hD : DApp D) (hO : OApp On O) (keep : Nat → Option (List Nat)) : ∀ (c : Code) (tm : T Value) (h : AH) {Kf : Nat → Ex → T Value → AH → Res} {K : Ex → T Value → AH → Res}, (∀ e tm h, App (fun n => Kf n e tm h) (K e tm h)) →
    App (fun n => evC P D S (On n) nt keep c tm h (Kf n)) (evC P D S O nt keep c tm h K) := by
  intro c
  induction c with
  | skip => intro tm h Kf K hK; exact hK _ _ _
  | region id ops draw => intro tm h Kf K hK; exact App.cond _ (hD hO _ _ _ _ fun tm h => hK _ _ _) (app_evOpsS hO _ _ _ _ fun tm h => hK _ _ _)
  | seq a b iha ihb =>
    intro tm h Kf K hK
    simp only [evC]
    split
    · refine App.cond _ ?_ ?_
      · refine iha _ _ fun e tm h => ?_
        cases e with
        | normal => exact ihb _ _ hK
        | exit i => exact hK _ _ _
        | ret => exact hK _ _ _
      · refine iha _ _ fun e tm h => ?_
        cases e with
        | normal => exact hO.code _ _ _ _ _ _ _ hK
        | exit i => exact hK _ _ _
        | ret => exact hK _ _ _
    · refine app_evOpsS hO _ _ _ _ fun tm h => ?_
      split
      · refine App.cond _ (ihb _ _ fun e tm h => ?_) (App.none _)
        cases e with
        | ret => exact App.bindR (hO.call _ _ _) fun p => hK _ _ _
        | normal => exact App.none _
        | exit i => exact App.none _
      · exact App.none _
  | cond x a b iha ihb =>
    intro tm h Kf K hK
    simp only [evC]
    split
    · exact App.cond _ (iha _ _ hK) (ihb _ _ hK)
    · exact App.none _
  | block id b ih =>
    intro tm h Kf K hK
    refine ih _ _ fun e tm h => ?_
    cases e with
    | normal => exact hK _ _ _
    | exit i => exact App.cond _ (hK _ _ _) (hK _ _ _)
    | ret => exact hK _ _ _
  | loop b ih =>
    intro tm h Kf K hK
    exact hO.loop _ _ _ _ _ _ _ fun e tm h => hK _ _ _
  | exit id => intro tm h Kf K hK; exact hK _ _ _
  | label id => intro tm h Kf K hK; exact hK _ _ _
  | ret => intro tm h Kf K hK; exact hK _ _ _
  | _ => intros; exact App.none _

theorem app_callF {D : DrawEv} {S : SumEv} (hD : DApp D) (hO : OApp On O) (keep : Nat → Nat → Option (List Nat)) (f : FuncId) (args : List Value) (h : AH) :
    App (fun n => callF P D S (On n) keep f args h) (callF P D S O keep f args h) := by
  unfold callF
  split
  · exact App.none _
  · split
    · exact App.none _
    · exact App.cond _ (app_evC hD hO _ _ _ _ fun e tm h => App.const _) (App.none _)
end

open Classical in
noncomputable def limR (p : Value × AH → Prop) : Res := if h : ∃ r, p r then some h.choose else none
theorem limR_spec {p : Value × AH → Prop} {r : Value × AH} (h : limR p = some r) : p r := by
  unfold limR at h
  split at h
  · rename_i hx; rw [← Option.some.inj h]; exact hx.choose_spec
  · cases h
theorem limR_eq {p : Value × AH → Prop} {r : Value × AH} (h : p r) (hu : ∀ r', p r' → r' = r) : limR p = some r := by
  unfold limR
  rw [dif_pos ⟨r, h⟩]
  rw [hu _ (⟨r, h⟩ : ∃ r, p r).choose_spec]

/-- the limit -/
noncomputable def evI (P : Program) (D : DrawEv) (S : SumEv) (ov : Over) (keep : Nat → Nat → Option (List Nat)) : Orc where
  call f args h := limR fun r => ∃ N, ∀ n, N ≤ n → (ev P D S ov keep n).call f args h = some r
  loop nt kp b tm h K := limR fun r => ∀ Kf : Nat → Ex → T Value → AH → Res, (∀ e tm h, App (fun n => Kf n e tm h) (K e tm h)) → ∃ N, ∀ n, N ≤ n → (ev P D S ov keep n).loop nt kp b tm h (Kf n) = some r
  code nt kp b tm h K := limR fun r => ∀ Kf : Nat → Ex → T Value → AH → Res, (∀ e tm h, App (fun n => Kf n e tm h) (K e tm h)) → ∃ N, ∀ n, N ≤ n → (ev P D S ov keep n).code nt kp b tm h (Kf n) = some r

theorem evI_app (P : Program) (D : DrawEv) (S : SumEv) (ov : Over) (keep : Nat → Nat → Option (List Nat)) : OApp (ev P D S ov keep) (evI P D S ov keep) where
  call _ _ _ _ h := limR_spec h
  loop _ _ _ _ _ Kf K hK _ h := limR_spec (p := fun r => ∀ Kf : Nat → Ex → T Value → AH → Res, _ → ∃ N, ∀ n, N ≤ n → _ = some r) h Kf hK
  code _ _ _ _ _ Kf K hK _ h := limR_spec (p := fun r => ∀ Kf : Nat → Ex → T Value → AH → Res, _ → ∃ N, ∀ n, N ≤ n → _ = some r) h Kf hK

theorem evI_call {P : Program} {D : DrawEv} {S : SumEv} {ov : Over} (hD : DApp D) {keep : Nat → Nat → Option (List Nat)} {f : FuncId} {args : List Value} {h : AH} {r : Value × AH}
    (hv : ov f args h = none) (hr : callF P D S (evI P D S ov keep) keep f args h = some r) : (evI P D S ov keep).call f args h = some r := by
  obtain ⟨N, hN⟩ := app_callF hD (evI_app P D S ov keep) keep f args h r hr
  have hp : ∃ N, ∀ n, N ≤ n → (ev P D S ov keep n).call f args h = some r := by
    refine ⟨N + 1, fun n hn => ?_⟩
    obtain ⟨m, rfl⟩ : ∃ m, n = m + 1 := ⟨n - 1, by omega⟩
    show orR (ov f args h) _ = _
    rw [hv]
    exact hN m (by omega)
  exact limR_eq hp fun r' h' => App.uniq h' hp

theorem evI_loop {P : Program} {D : DrawEv} {S : SumEv} {ov : Over} (hD : DApp D) {keep : Nat → Nat → Option (List Nat)} {nt : Nat} {kp : Nat → Option (List Nat)} {b : Code} {tm : T Value} {h : AH} {K : Ex → T Value → AH → Res} {r : Value × AH}
    (hr : evC P D S (evI P D S ov keep) nt kp b tm h (loopK (fun tm h => (evI P D S ov keep).loop nt kp b (scrubO tm (kp (3 * firstRegion b))) h K) K) = some r) : (evI P D S ov keep).loop nt kp b tm h K = some r := by
  have key : ∀ Kf : Nat → Ex → T Value → AH → Res, (∀ e tm h, App (fun n => Kf n e tm h) (K e tm h)) → ∃ N, ∀ n, N ≤ n → (ev P D S ov keep n).loop nt kp b tm h (Kf n) = some r := by
    intro Kf hK
    have hK' : ∀ e tm h, App (fun n => Kf (n + 1) e tm h) (K e tm h) := fun e tm h r hr => by
      obtain ⟨N, hN⟩ := hK e tm h r hr
      exact ⟨N, fun n hn => hN (n + 1) (by omega)⟩
    have := app_evC (P := P) (S := S) (nt := nt) hD (evI_app P D S ov keep) kp b tm h
      (Kf := fun n => loopK (fun tm h => (ev P D S ov keep n).loop nt kp b (scrubO tm (kp (3 * firstRegion b))) h (Kf (n + 1))) (Kf (n + 1)))
      (K := loopK (fun tm h => (evI P D S ov keep).loop nt kp b (scrubO tm (kp (3 * firstRegion b))) h K) K) (fun e tm h => by
        cases e with
        | normal => exact (evI_app P D S ov keep).loop _ _ _ _ _ _ _ hK'
        | exit i => exact hK' _ _ _
        | ret => exact hK' _ _ _)
    obtain ⟨N, hN⟩ := this r hr
    refine ⟨N + 1, fun n hn => ?_⟩
    obtain ⟨m, rfl⟩ : ∃ m, n = m + 1 := ⟨n - 1, by omega⟩
    exact hN m (by omega)
  exact limR_eq key fun r' h' => App.uniq (h' (fun _ => K) fun _ _ _ => App.const _) (key (fun _ => K) fun _ _ _ => App.const _)

theorem evI_code {P : Program} {D : DrawEv} {S : SumEv} {ov : Over} (hD : DApp D) {keep : Nat → Nat → Option (List Nat)} {nt : Nat} {kp : Nat → Option (List Nat)} {b : Code} {tm : T Value} {h : AH} {K : Ex → T Value → AH → Res} {r : Value × AH}
    (hr : evC P D S (evI P D S ov keep) nt kp b tm h K = some r) : (evI P D S ov keep).code nt kp b tm h K = some r := by
  have key : ∀ Kf : Nat → Ex → T Value → AH → Res, (∀ e tm h, App (fun n => Kf n e tm h) (K e tm h)) → ∃ N, ∀ n, N ≤ n → (ev P D S ov keep n).code nt kp b tm h (Kf n) = some r := by
    intro Kf hK
    have hK' : ∀ e tm h, App (fun n => Kf (n + 1) e tm h) (K e tm h) := fun e tm h r hr => by
      obtain ⟨N, hN⟩ := hK e tm h r hr
      exact ⟨N, fun n hn => hN (n + 1) (by omega)⟩
    obtain ⟨N, hN⟩ := app_evC (P := P) (S := S) (nt := nt) hD (evI_app P D S ov keep) kp b tm h (Kf := fun n => Kf (n + 1)) (K := K) hK' r hr
    refine ⟨N + 1, fun n hn => ?_⟩
    obtain ⟨m, rfl⟩ : ∃ m, n = m + 1 := ⟨n - 1, by omega⟩
    exact hN m (by omega)
  exact limR_eq key fun r' h' => App.uniq (h' (fun _ => K) fun _ _ _ => App.const _) (key (fun _ => K) fun _ _ _ => App.const _)

theorem evI_ok {P : Program} {D : DrawEv} {S : SumEv} {ov : Over} (hV : OvOK P ov) (hS : SumOK P S) (hD : DrawOK P D) (keep : Nat → Nat → Option (List Nat)) : CallsOK P (evI P D S ov keep) := by
  intro f args h r hr
  obtain ⟨N, hN⟩ := limR_spec hr
  exact (ev_ok hV hS hD keep N).1 f args h r (hN N (Nat.le_refl _))
end Go.Lg
namespace Go.Lg
set_option linter.unusedVariables false
open Go
/-- whatever the first comes to, the second comes to -/
def Le (x y : Res) : Prop := ∀ r, x = some r → y = some r
/-- it comes to something that is so -/
def Ok (x : Res) (Q : Value → AH → Prop) : Prop := ∃ v h, x = some (v, h) ∧ Q v h
theorem Ok.le {x y : Res} {Q : Value → AH → Prop} (h : Ok x Q) (hl : Le x y) : Ok y Q := by
  obtain ⟨v, h', h1, h2⟩ := h
  exact ⟨v, h', hl _ h1, h2⟩
theorem Ok.mono {x : Res} {Q R : Value → AH → Prop} (h : Ok x Q) (hq : ∀ v h, Q v h → R v h) : Ok x R := by
  obtain ⟨v, h', h1, h2⟩ := h
  exact ⟨v, h', h1, hq _ _ h2⟩
theorem Ok.some {v : Value} {h : AH} {Q : Value → AH → Prop} (hq : Q v h) : Ok (some (v, h)) Q := ⟨v, h, rfl, hq⟩
theorem Ok.bind {x : Res} {f : Value × AH → Res} {Q R : Value → AH → Prop} (h : Ok x Q) (hf : ∀ v h, Q v h → Ok (f (v, h)) R) : Ok (x.bind f) R := by
  obtain ⟨v, h', rfl, h2⟩ := h
  exact hf _ _ h2
theorem Ok.eq {x : Res} {v : Value} {h : AH} {Q : Value → AH → Prop} (hx : x = .some (v, h)) (hq : Q v h) : Ok x Q := ⟨v, h, hx, hq⟩
end Go.Lg
namespace Go.Lg
open Go
theorem evI_ov {P : Program} {D : DrawEv} {S : SumEv} {ov : Over} {keep : Nat → Nat → Option (List Nat)} {f : FuncId} {args : List Value} {h : AH} {r : Value × AH}
    (hv : ov f args h = some r) : (evI P D S ov keep).call f args h = some r := by
  have hp : ∃ N, ∀ n, N ≤ n → (ev P D S ov keep n).call f args h = some r := by
    refine ⟨1, fun n hn => ?_⟩
    obtain ⟨m, rfl⟩ : ∃ m, n = m + 1 := ⟨n - 1, by omega⟩
    show orR (ov f args h) _ = _
    rw [hv]; rfl
  exact limR_eq hp fun r' h' => App.uniq h' hp

theorem empty_rel (w : World) : HRel (fun _ => none) ⟨0, .nil⟩ w := by
  refine ⟨fun b t h => by (cases h), fun b t h => by (cases h), fun b c op ro esz h => ?_, fun b es clk h => ?_, fun b b' x x' t t' h => ?_, fun b x h => ?_, fun b c esz t h => ?_⟩ <;> simp [AH.get, T.get] at h

theorem HRel.heap_same {φ : Emb} {h : AH} {w w' : World} (hr : HRel φ h w) (hs : w.heap.size ≤ w'.heap.size) (hh : ∀ B, B < w.heap.size → w'.heap[B]? = w.heap[B]?) : HRel φ h w' := by
  refine ⟨hr.lt, fun b t hb => Nat.lt_of_lt_of_le (hr.blkLt b t hb) hs, fun b c op ro esz hg => ?_, fun b es clk hg => ?_, hr.inj, hr.gets, hr.sh0⟩
  · obtain ⟨t, h1, h2, h3, h4, h5, h6⟩ := hr.cells b c op ro esz hg
    refine ⟨t, h1, h2, h3, h4, fun h0 => ?_, fun k v hk => ?_⟩
    · rw [hh _ (hr.blkLt b t h1)]; exact h5 h0
    · obtain ⟨a, v', b', c'⟩ := h6 k v hk
      refine ⟨a, v', ?_, c'⟩
      rw [← b']
      simp only [World.cell?]
      rw [hh _ (hr.blkLt b t h1)]
  · obtain ⟨t, es', h1, h2, h3, h4⟩ := hr.maps b es clk hg
    exact ⟨t, es', h1, h2, by rw [hh _ (hr.blkLt b t h1)]; exact h3, h4⟩

/-- a call that answers a value without addresses from the empty memory answers it from any, and leaves it -/
theorem closed_ok {P : Program} {O : Orc} (hO : CallsOK P O) {f : FuncId} {args : List Value} (ha : ∀ w cs, VRs (fun _ => none) args cs ↔ VRs w args cs) {v : Value} {h0 : AH} (hr : O.call f args ⟨0, .nil⟩ = some (v, h0)) (hv : ∀ φ φ' c, VR φ v c → VR φ' v c) (h : AH) : CallOK P f args h (v, h) := by
  intro φ w cs hrel hvs
  obtain ⟨h1, h2⟩ := hO f args _ _ hr (fun _ => none) w cs (empty_rel w) ((ha φ cs).mpr hvs)
  have key : ∀ φ' c w', Good (fun _ => none) w h0 w' φ' → VR φ' v c → ∃ φ' c', c = c' ∧ Good φ w h w' φ' ∧ VR φ' v c' := by
    intro φ' c w' hg hc
    have hb : ∀ B, B < w.heap.size → w'.heap[B]? = w.heap[B]? := fun B hB => hg.fr.block B hB fun b t hb => by cases hb
    exact ⟨φ, c, rfl, ⟨.refl _ _, ⟨hg.fr.os, hg.fr.tape, hg.fr.output, hg.fr.size, fun B hB _ => hb B hB⟩, hrel.heap_same hg.fr.size hb⟩, hv _ _ _ hc⟩
  refine ⟨h1.mono ?_, h2.mono ?_⟩
  · rintro e w' ⟨φ', c, rfl, hg, hc⟩
    obtain ⟨φ'', c', rfl, h5, h6⟩ := key φ' c w' hg hc
    exact ⟨φ'', _, rfl, h5, h6⟩
  · rintro e u w' ⟨hu, φ', c, rfl, hg, hc⟩
    obtain ⟨φ'', c', rfl, h5, h6⟩ := key φ' c w' hg hc
    exact ⟨hu, φ'', _, rfl, h5, h6⟩

/-- a table of functions without parameters that answer true -/
def trueOv (tab : List Nat) : Over := fun f args h => cond (args.isEmpty && tab.any (Nat.beq f)) (some (.bool true, h)) none
def isTrue : Res → Bool
  | some (.bool true, _) => true
  | _ => false
theorem trueOv_ok {P : Program} {tab : List Nat} {O : Orc} (hO : CallsOK P O) (ht : tab.all (fun f => isTrue (O.call f [] ⟨0, .nil⟩)) = true) : OvOK P (trueOv tab) := by
  intro f args h r hr
  unfold trueOv at hr
  cases hc : (args.isEmpty && tab.any (Nat.beq f)) with
  | false => rw [hc] at hr; cases hr
  | true =>
    rw [hc] at hr
    obtain rfl := Option.some.inj hr
    simp only [Bool.and_eq_true, List.isEmpty_iff, List.any_eq_true] at hc
    obtain ⟨rfl, g, hg, hfg⟩ := hc
    obtain rfl : f = g := Nat.eq_of_beq_eq_true hfg
    have := List.all_eq_true.mp ht f hg
    unfold isTrue at this
    split at this
    · rename_i h0 he
      exact closed_ok hO (fun w cs => ⟨fun hx => by cases hx; exact .nil, fun hx => by cases hx; exact .nil⟩) he (fun φ φ' c hx => by cases hx; exact .bool _) h
    · cases this
end Go.Lg
