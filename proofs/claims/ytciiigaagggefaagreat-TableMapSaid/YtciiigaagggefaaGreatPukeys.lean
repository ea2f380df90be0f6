/- Keys of maps, in order: what Reads and Writes of sets of entries come to. -/
import Derived.Test.YtciiigaagggefaaGreatPucell
import Derived.Test.YtciiigaagggefaaGreatFmaps
import Derived.Test.YtciiigaagggefaaGreatFslices
import Derived.Test.YtciiigaagggefaaGreatEv37
namespace Go.Lg.Tryz
set_option linter.unusedVariables false
set_option linter.unusedSimpArgs false
open Go Go.Proofs
namespace Tab
theorem keysG_of {α : Type} {ev : α → Value} : ∀ {es : List MapEntry} {l : List (Int × α)}, es.map Mg.prI = l.map (Mg.encPr ev) → keysI es = some (l.map Prod.fst)
  | [], [], _ => rfl
  | [], p :: l, h => by simp at h
  | e :: es, [], h => by simp at h
  | e :: es, p :: l, h => by
    simp only [List.map_cons, List.cons.injEq, Mg.prI, Mg.encPr, Prod.mk.injEq] at h
    simp only [keysI, h.1.1, keyI, Option.bind_some, keysG_of h.2, List.map_cons]
theorem collect_eqG {α : Type} {ev : α → Value} {fks : List Nat} {fk : Nat} (hfk : fks.any (Nat.beq fk) = true) {h : AH} {bx r : Nat} {l : List (Int × α)} (hb : h.get bx = some (.cells [.map (some r)] false false 1)) (hm : Mg.MI ev h r l) (hw : Wk (l.map Prod.fst)) (hl : l.length ≤ 1000000) :
    collectF fks [.func (.func fk) ⟨[]⟩ ⟨[.pointer (some ⟨bx, 0, none⟩)]⟩] h = some ((permsL (l.map Prod.fst)).map (outC h)) := by
  obtain ⟨es, clk, h1, h2, h3, h4⟩ := hm.ex
  have e1 : colMap h bx = some (some r) := by simp only [colMap, hb]
  have hco : collectOk es clk (l.map Prod.fst) = true := by
    simp only [collectOk, Bool.and_eq_true]
    refine ⟨Nat.ble_eq_true_of_le (by rw [Mg.ent_len h2]; exact hl), ?_, nodupN_of h4, nodupI_of hm.nk, ?_⟩
    · rw [List.all_eq_true]; intro e he; exact Nat.ble_eq_true_of_le (h3 e he)
    · rw [List.all_eq_true]; exact hw
  have e2 : colKeys h r = some (l.map Prod.fst) := by
    simp only [colKeys, h1, keysG_of h2, Option.bind_some, hco, cond_true]
  simp only [collectF, colArg, Option.bind_some, hfk, cond_true, e1, e2]
theorem asG_fn (x : Option (FuncId × List Value × List Value)) : asG (fnV x) = some x := by rcases x with _ | ⟨a, b, c⟩ <;> rfl
theorem flatI (l : List Int) : l.flatMap encI = l.map (Value.int .i64) := by
  induction l with
  | nil => rfl
  | cons x l ih => simp only [List.flatMap_cons, ih, List.map_cons]; rfl
def gOf (h : AH) : List Int → AH
  | [] => h
  | x :: p => h.push (.cells ((sortI (x :: p)).map (Value.int .i64)) true false 1)
def aOf (h : AH) : List Int → Option Addr × Nat
  | [] => (none, 0)
  | _ :: _ => (some ⟨h.n, 0, none⟩, opn)
theorem gOf_perm {h : AH} {p q : List Int} (hp : p.Perm q) : gOf h p = gOf h q ∧ aOf h p = aOf h q := by
  cases p with
  | nil =>
    cases q with
    | nil => exact ⟨rfl, rfl⟩
    | cons _ _ => have := hp.length_eq; simp at this
  | cons x p =>
    cases q with
    | nil => have := hp.length_eq; simp at this
    | cons _ _ => exact ⟨by simp only [gOf, sortI_perm hp], rfl⟩
/-- what order does to what Collect gives -/
theorem order_of {h : AH} {p : List Int} (hl : p.length ≤ 1000000) : ((asS (outC h p).1).bind fun t => C k_sets_order [.slice t.1 t.2.1 t.2.2] (outC h p).2) = some (.slice (aOf h p).1 p.length (aOf h p).2, gOf h p) := by
  cases p with
  | nil =>
    refine sets_order_le _ ?_
    simp only [F_sets_order]
    rw [show sortF 76 [.slice none 0 0, fnV (some (76, [], []))] (outC h []).2 = some [(.tuple #[], h)] from sort_nil 76]
    simp only [sumK, List.map_cons, List.map_nil, allR_one]
    rfl
  | cons x p =>
    refine sets_order_le _ ?_
    simp only [F_sets_order]
    rw [show sortF 76 [.slice (some ⟨h.n, 0, none⟩) (x :: p).length opn, fnV (some (76, [], []))] (outC h (x :: p)).2 = _ from sort_eq 76 (AH.get_push_eq _ _) hl (by simp)]
    have hps : (outC h (x :: p)).2.set h.n (some (.cells ((sortI (x :: p)).map (Value.int .i64)) true false 1)) = gOf h (x :: p) := AH.push_set _ _ _
    simp only [sumK, List.map_cons, List.map_nil, allR_one] at *
    rw [hps]
    rfl
/-- a fresh list -/
structure Fresh (h h' : AH) (a : Option Addr) (n c : Nat) (l : List Int) : Prop where
  o : Ow h' 1 a n c (l.flatMap encI)
  f : Fr [] h h'
  b : ∀ b, blk a b → h.n ≤ b
  e : n = l.length
theorem keys_out {h h1 : AH} {r fk : Nat} {α : Type} {ev : α → Value} {l : List (Int × α)} (hfk : [79, 80].any (Nat.beq fk) = true) (hm : Mg.MI ev h r l) (hw : Wk (l.map Prod.fst)) (hl : l.length ≤ 1000000) (e1 : h1 = h.push (.cells [.map (some r)] false false 1)) {X : Res} :
    Ok (sumK (collectF [79, 80] [fnV (some (fk, [], [.pointer (some ⟨h.n, 0, none⟩)]))] h1) (fun l11 => allR (l11.map fun q10 => ((asS q10.1).bind fun t12 => ((C k_sets_order [(.slice t12.1 t12.2.1 t12.2.2)] q10.2).bind fun r13 => ((asS r13.1).bind fun t14 => (some ((.slice t14.1 t14.2.1 t14.2.2), r13.2))))))) X) fun x h' => ∃ a c, x = .slice a l.length c ∧ Fresh h h' a l.length c (sortI (l.map Prod.fst)) := by
  have hf1 : Fr [] h h1 := e1 ▸ Fr.push _ _ _
  have hm1 : Mg.MI ev h1 r l := hm.same (hf1.g _ hm.lt (by simp)) hf1.n
  have hc := collect_eqG (fks := [79, 80]) (fk := fk) hfk (h := h1) (bx := h.n) (by rw [e1]; exact AH.get_push_eq _ _) hm1 hw hl
  rw [show collectF [79, 80] [fnV (some (fk, [], [.pointer (some ⟨h.n, 0, none⟩)]))] h1 = some ((permsL (l.map Prod.fst)).map (outC h1)) from hc]
  simp only [sumK, List.map_map]
  let ks := l.map Prod.fst
  have hks : ks.length = l.length := List.length_map _
  have key : ∀ p, p.Perm ks → (asS (outC h1 p).1).bind (fun t12 => ((C k_sets_order [(.slice t12.1 t12.2.1 t12.2.2)] (outC h1 p).2).bind fun r13 => ((asS r13.1).bind fun t14 => (some ((Value.slice t14.1 t14.2.1 t14.2.2), r13.2))))) = some (.slice (aOf h1 ks).1 l.length (aOf h1 ks).2, gOf h1 ks) := by
    intro p hp
    have k1 := order_of (h := h1) (p := p) (by rw [hp.length_eq]; omega)
    rw [(gOf_perm hp).1, (gOf_perm hp).2, hp.length_eq, hks] at k1
    generalize (outC h1 p).1 = v at k1
    generalize (outC h1 p).2 = gv at k1
    cases hv : asS v with
    | none => rw [hv] at k1; simp at k1
    | some t =>
      rw [hv] at k1
      simp only [Option.bind_some] at k1 ⊢
      rw [k1]
      simp only [Option.bind_some, asS_s]
  have hne : ∃ p ps, permsL ks = p :: ps := by
    have := mem_permsL (List.Perm.refl ks)
    cases hq : permsL ks with
    | nil => rw [hq] at this; simp at this
    | cons p ps => exact ⟨p, ps, rfl⟩
  obtain ⟨p, ps, hps⟩ := hne
  have hall : ∀ q ∈ permsL ks, q.Perm ks := fun q hq => permsL_perm hq
  show Ok (allR (List.map _ (permsL ks))) _
  rw [hps] at hall ⊢
  simp only [List.map_cons, Function.comp]
  have hp1 := key p (hall p (by simp))
  rw [allR_same (r := (asS (outC h1 p).1).bind (fun t12 => ((C k_sets_order [(.slice t12.1 t12.2.1 t12.2.2)] (outC h1 p).2).bind fun r13 => ((asS r13.1).bind fun t14 => (some ((Value.slice t14.1 t14.2.1 t14.2.2), r13.2))))))]
  · rw [hp1]
    refine Ok.some ⟨_, _, rfl, ?_⟩
    cases hq : ks with
    | nil =>
      have hl0 : l = [] := by cases l with | nil => rfl | cons _ _ => simp [ks] at hq
      subst hl0
      exact ⟨by rw [show sortI (List.map Prod.fst ([] : List (Int × α))) = [] from List.eq_nil_of_length_eq_zero (sortI_len _)]; exact .nil, hf1, fun b hb => hb.elim, by rw [sortI_len]; rfl⟩
    | cons y q =>
      have hn1 : h1.n = h.n + 1 := by rw [e1]; rfl
      refine ⟨?_, ?_, fun b hb => ?_, by rw [sortI_len, List.length_map]⟩
      · rw [flatI, show l.map Prod.fst = y :: q from hq]
        exact .mk (AH.get_push_eq _ _) (by rw [List.length_map, sortI_len, ← hq]; omega) (by show h1.n < h1.n + 1; omega)
      · exact hf1.trans (Fr.push _ _ _)
      · obtain rfl : h1.n = b := hb
        omega
  · intro x hx
    obtain ⟨q, hq, rfl⟩ := List.mem_map.mp hx
    exact (key q (hall q (List.mem_cons_of_mem _ hq))).trans hp1.symm
theorem fresh_run {h : AH} {F : List Asr} {x : Res} {n : Nat} {l : List Int} (hh : H h F) (f : Ok x fun v h' => ∃ a c, v = .slice a n c ∧ Fresh h h' a n c l) : Ok x fun v h' => ∃ a c, v = .slice a n c ∧ n = l.length ∧ H h' (aOw 1 a n c (l.flatMap encI) :: F) := by
  refine Ok.mono f ?_
  rintro v h' ⟨a, c, rfl, fr⟩
  refine ⟨a, c, rfl, fr.e, ?_⟩
  exact hh.fresh fr.f.n (fun b hb => fr.f.g b hb (by simp)) fr.b fr.o.live fun h'' hg => fr.o.same2 hg
structure St where
  R : List (Int × Int)
  W : List (Int × En)
abbrev setP (s r w : Nat) (σ : St) : List Asr := [Cs s [.map (some r), .map (some w), .slice none 0 0, .slice none 0 0] 4, Mg.aM vI r σ.R, Mg.aM vE w σ.W]
def aSet (s : Nat) (σ : St) : Asr := fun m => ∃ rw : Nat × Nat, Lay (setP s rw.1 rw.2 σ) m
structure SF (h : AH) (s r w : Nat) (σ : St) : Prop where
  s : h.get s = some (.cells [.map (some r), .map (some w), .slice none 0 0, .slice none 0 0] false false 4)
  r : Mg.MI vI h r σ.R
  w : Mg.MI vE h w σ.W
section
variable {h : AH} {s r w : Nat} {σ : St} {F : List Asr}
theorem SF.of (q : H h (setP s r w σ ++ F)) : SF h s r w σ := ⟨q.g 0 rfl, Mg.m_at (q.mv 1 rfl), Mg.m_at (q.mv 2 rfl)⟩
theorem set_op (q : H h (aSet s σ :: F)) : ∃ r w, H h (setP s r w σ ++ F) := by
  obtain ⟨rw, q⟩ := q.ex
  exact ⟨rw.1, rw.2, q.opn_⟩
theorem set_cl (q : H h (setP s r w σ ++ F)) : H h (aSet s σ :: F) := q.cls.imp fun m hm => ⟨(r, w), hm⟩
theorem set_sf (q : H h (aSet s σ :: F)) : ∃ r w, SF h s r w σ := by
  obtain ⟨r, w, q⟩ := set_op q
  exact ⟨r, w, SF.of q⟩
theorem sRight (f : SF h s r w σ) : C k_sets_Sets_table_Entry_right [ptr s] h = some (.bool true, h) := by
  refine sets_Sets_table_Entry_right_le _ ?_
  simp only [F_sets_Sets_table_Entry_right, Option.isNone_some, Bool.not_false, cond_t, Option.bind_some, AH.ldM_of f.s (o := 0 + 0) rfl]
theorem sMay (f : SF h s r w σ) {i : Int} (h0 : 0 ≤ i) (h1 : i < 1024) : C k_sets_Sets_table_Entry_may [ptr s, .int .i64 i] h = some (.int .i64 0, h) := by
  refine sets_Sets_table_Entry_may_le _ ?_
  simp only [F_sets_Sets_table_Entry_may, sRight f, Option.bind_some, asB_b, Bool.not_true, cond_f, dec_f (show ¬ i < 0 by omega), dec_t h1]
  exact sets_Sets_table_Entry_may_j1_le _ rfl
theorem set_writes (f : SF h s r w σ) (hw : Wk (σ.W.map Prod.fst)) (hl : σ.W.length ≤ 1000000) : Ok (C k_sets_Sets_table_Entry_Writes [ptr s] h) fun x h' => ∃ a c, x = .slice a σ.W.length c ∧ Fresh h h' a σ.W.length c (sortI (σ.W.map Prod.fst)) := by
  refine Ok.le ?_ sets_Sets_table_Entry_Writes_le
  simp only [F_sets_Sets_table_Entry_Writes, sRight f, Option.bind_some, asB_b, Bool.not_true, cond_f]
  refine Ok.le ?_ sets_Sets_table_Entry_Writes_j1_le
  simp only [Option.bind_some, AH.ldM_of f.s (o := 0 + 1) rfl]
  rw [maps_Keys_map_int_table_Entry_int_table_Entry_le _ rfl]
  simp only [Option.bind_some, asG_fn]
  exact keys_out rfl f.w hw hl rfl
theorem set_reads (f : SF h s r w σ) (hw : Wk (σ.R.map Prod.fst)) (hl : σ.R.length ≤ 1000000) : Ok (C k_sets_Sets_table_Entry_Reads [ptr s] h) fun x h' => ∃ a c, x = .slice a σ.R.length c ∧ Fresh h h' a σ.R.length c (sortI (σ.R.map Prod.fst)) := by
  refine Ok.le ?_ sets_Sets_table_Entry_Reads_le
  simp only [F_sets_Sets_table_Entry_Reads, sRight f, Option.bind_some, asB_b, Bool.not_true, cond_f]
  refine Ok.le ?_ sets_Sets_table_Entry_Reads_j1_le
  simp only [Option.bind_some, AH.ldM_of f.s (o := 0 + 0) rfl]
  rw [maps_Keys_map_int_int64_int_int64_le _ rfl]
  simp only [Option.bind_some, asG_fn]
  exact keys_out rfl f.r hw hl rfl
end
end Tab
end Go.Lg.Tryz
