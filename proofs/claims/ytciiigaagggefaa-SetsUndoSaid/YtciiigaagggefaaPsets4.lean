/- Sets[int]: what Reads and Writes come to. -/
import Derived.Test.YtciiigaagggefaaPsets3
namespace Go.Lg.Try
set_option linter.unusedVariables false
set_option linter.unusedSimpArgs false
open Go Go.Proofs
theorem asG_fn (x : Option (FuncId × List Value × List Value)) : asG (fnV x) = some x := by rcases x with _ | ⟨a, b, c⟩ <;> rfl
theorem flatI (l : List Int) : l.flatMap encI = l.map (Value.int .i64) := by
  induction l with
  | nil => rfl
  | cons x l ih => simp only [List.flatMap_cons, ih, List.map_cons]; rfl
def gOf (h : AH) : List Int → AH
  | [] => h
  | x :: p => h.push (.cells ((sortI (x :: p)).map (Value.int .i64)) true false 1)
def aOf (h : AH) : List Int → Option Addr × Nat
  | [] => (none, 0)
  | _ :: _ => (some ⟨h.n, 0, none⟩, opn)
theorem gOf_perm {h : AH} {p q : List Int} (hp : p.Perm q) : gOf h p = gOf h q ∧ aOf h p = aOf h q := by
  cases p with
  | nil =>
    cases q with
    | nil => exact ⟨rfl, rfl⟩
    | cons _ _ => have := hp.length_eq; simp at this
  | cons x p =>
    cases q with
    | nil => have := hp.length_eq; simp at this
    | cons _ _ => exact ⟨by simp only [gOf, sortI_perm hp], rfl⟩
/-- what order does to what Collect gives -/
theorem order_of {h : AH} {p : List Int} (hl : p.length ≤ 1000000) : ((asS (outC h p).1).bind fun t => C k_sets_order [.slice t.1 t.2.1 t.2.2] (outC h p).2) = some (.slice (aOf h p).1 p.length (aOf h p).2, gOf h p) := by
  cases p with
  | nil =>
    refine sets_order_le _ ?_
    simp only [F_sets_order]
    rw [show sortF 102 [.slice none 0 0, fnV (some (102, [], []))] (outC h []).2 = some [(.tuple #[], h)] from sort_nil 102]
    simp only [sumK, List.map_cons, List.map_nil, allR_one]
    rfl
  | cons x p =>
    refine sets_order_le _ ?_
    simp only [F_sets_order]
    rw [show sortF 102 [.slice (some ⟨h.n, 0, none⟩) (x :: p).length opn, fnV (some (102, [], []))] (outC h (x :: p)).2 = _ from sort_eq 102 (AH.get_push_eq _ _) hl (by simp)]
    have hps : (outC h (x :: p)).2.set h.n (some (.cells ((sortI (x :: p)).map (Value.int .i64)) true false 1)) = gOf h (x :: p) := AH.push_set _ _ _
    simp only [sumK, List.map_cons, List.map_nil, allR_one] at *
    rw [hps]
    rfl
section
variable {h h' : AH} {s : Nat} {A : SA} {σ : St}
/-- a fresh list -/
structure Fresh (h h' : AH) (a : Option Addr) (n c : Nat) (l : List Int) : Prop where
  o : Ow h' 1 a n c (l.flatMap encI)
  f : Fr [] h h'
  b : ∀ b, blk a b → h.n ≤ b
  e : n = l.length
theorem keys_out {h1 : AH} {r fk : Nat} {l : List (Int × Int)} (hfk : [105, 106].any (Nat.beq fk) = true) (hm : MI h r l) (hw : Wk (l.map Prod.fst)) (hl : l.length ≤ 1000000) (e1 : h1 = h.push (.cells [.map (some r)] false false 1)) {X : Res} :
    Ok (sumK (collectF [105, 106] [fnV (some (fk, [], [.pointer (some ⟨h.n, 0, none⟩)]))] h1) (fun l11 => allR (l11.map fun q10 => ((asS q10.1).bind fun t12 => ((C k_sets_order [(.slice t12.1 t12.2.1 t12.2.2)] q10.2).bind fun r13 => ((asS r13.1).bind fun t14 => (some ((.slice t14.1 t14.2.1 t14.2.2), r13.2))))))) X) fun x h' => ∃ a c, x = .slice a l.length c ∧ Fresh h h' a l.length c (sortI (l.map Prod.fst)) := by
  have hf1 : Fr [] h h1 := e1 ▸ Fr.push _ _ _
  have hm1 : MI h1 r l := hm.same (hf1.g _ hm.lt (by simp)) hf1.n
  have hc := collect_eq (fks := [105, 106]) (fk := fk) hfk (h := h1) (bx := h.n) (by rw [e1]; exact AH.get_push_eq _ _) hm1 hw hl
  rw [show collectF [105, 106] [fnV (some (fk, [], [.pointer (some ⟨h.n, 0, none⟩)]))] h1 = some ((permsL (l.map Prod.fst)).map (outC h1)) from hc]
  simp only [sumK, List.map_map]
  let ks := l.map Prod.fst
  have hks : ks.length = l.length := List.length_map _
  have key : ∀ p, p.Perm ks → (asS (outC h1 p).1).bind (fun t12 => ((C k_sets_order [(.slice t12.1 t12.2.1 t12.2.2)] (outC h1 p).2).bind fun r13 => ((asS r13.1).bind fun t14 => (some ((Value.slice t14.1 t14.2.1 t14.2.2), r13.2))))) = some (.slice (aOf h1 ks).1 l.length (aOf h1 ks).2, gOf h1 ks) := by
    intro p hp
    have k1 := order_of (h := h1) (p := p) (by rw [hp.length_eq]; omega)
    rw [(gOf_perm hp).1, (gOf_perm hp).2, hp.length_eq, hks] at k1
    generalize (outC h1 p).1 = v at k1
    generalize (outC h1 p).2 = gv at k1
    cases hv : asS v with
    | none => rw [hv] at k1; simp at k1
    | some t =>
      rw [hv] at k1
      simp only [Option.bind_some] at k1 ⊢
      rw [k1]
      simp only [Option.bind_some, asS_s]
  have hne : ∃ p ps, permsL ks = p :: ps := by
    have := mem_permsL (List.Perm.refl ks)
    cases hq : permsL ks with
    | nil => rw [hq] at this; simp at this
    | cons p ps => exact ⟨p, ps, rfl⟩
  obtain ⟨p, ps, hps⟩ := hne
  have hall : ∀ q ∈ permsL ks, q.Perm ks := fun q hq => permsL_perm hq
  show Ok (allR (List.map _ (permsL ks))) _
  rw [hps] at hall ⊢
  simp only [List.map_cons, Function.comp]
  have hp1 := key p (hall p (by simp))
  rw [allR_same (r := (asS (outC h1 p).1).bind (fun t12 => ((C k_sets_order [(.slice t12.1 t12.2.1 t12.2.2)] (outC h1 p).2).bind fun r13 => ((asS r13.1).bind fun t14 => (some ((Value.slice t14.1 t14.2.1 t14.2.2), r13.2))))))]
  · rw [hp1]
    refine Ok.some ⟨_, _, rfl, ?_⟩
    cases hq : ks with
    | nil =>
      have hl0 : l = [] := by cases l with | nil => rfl | cons _ _ => simp [ks] at hq
      subst hl0
      exact ⟨by rw [show sortI (List.map Prod.fst ([] : List (Int × Int))) = [] from List.eq_nil_of_length_eq_zero (sortI_len _)]; exact .nil, hf1, fun b hb => hb.elim, by rw [sortI_len]; rfl⟩
    | cons y q =>
      have hn1 : h1.n = h.n + 1 := by rw [e1]; rfl
      refine ⟨?_, ?_, fun b hb => ?_, by rw [sortI_len, List.length_map]⟩
      · rw [flatI, show l.map Prod.fst = y :: q from hq]
        exact .mk (AH.get_push_eq _ _) (by rw [List.length_map, sortI_len, ← hq]; omega) (by show h1.n < h1.n + 1; omega)
      · exact hf1.trans (Fr.push _ _ _)
      · obtain rfl : h1.n = b := hb
        omega
  · intro x hx
    obtain ⟨q, hq, rfl⟩ := List.mem_map.mp hx
    exact (key q (hall q (List.mem_cons_of_mem _ hq))).trans hp1.symm
theorem set_writes (hs : SQ h s A σ) (hw : Wk (σ.writes.map Prod.fst)) (hl : σ.writes.length ≤ 1000000) : Ok (C k_sets_Sets_int_Writes [ptr s] h) fun x h' => ∃ a c, x = .slice a σ.writes.length c ∧ Fresh h h' a σ.writes.length c (sortI (σ.writes.map Prod.fst)) := by
  refine Ok.le ?_ sets_Sets_int_Writes_le
  simp only [F_sets_Sets_int_Writes, set_right hs, Option.bind_some, asB_b, Bool.not_true, cond_f]
  refine Ok.le ?_ sets_Sets_int_Writes_j1_le
  simp only [Option.bind_some, hs.c1]
  rw [maps_Keys_map_int_int_int_int_le _ rfl]
  simp only [Option.bind_some, asG_fn]
  exact keys_out rfl hs.w hw hl rfl
theorem set_reads (hs : SQ h s A σ) (hw : Wk (σ.reads.map Prod.fst)) (hl : σ.reads.length ≤ 1000000) : Ok (C k_sets_Sets_int_Reads [ptr s] h) fun x h' => ∃ a c, x = .slice a σ.reads.length c ∧ Fresh h h' a σ.reads.length c (sortI (σ.reads.map Prod.fst)) := by
  refine Ok.le ?_ sets_Sets_int_Reads_le
  simp only [F_sets_Sets_int_Reads, set_right hs, Option.bind_some, asB_b, Bool.not_true, cond_f]
  refine Ok.le ?_ sets_Sets_int_Reads_j1_le
  simp only [Option.bind_some, hs.c0]
  rw [maps_Keys_map_int_int64_int_int64_le _ rfl]
  simp only [Option.bind_some, asG_fn]
  exact keys_out rfl hs.r hw hl rfl
end
end Go.Lg.Try
