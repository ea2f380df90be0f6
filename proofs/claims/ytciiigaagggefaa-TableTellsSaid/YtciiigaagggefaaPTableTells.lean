/- TableTells: putting, getting, removing and listing do exactly what the document defines. -/
import Derived.Test.YtciiigaagggefaaFkit
import Derived.Test.YtciiigaagggefaaFlaw20
import Derived.Test.YtciiigaagggefaaPref20u
namespace Go.Lg.Try
set_option linter.unusedVariables false
set_option linter.unusedSimpArgs false
open Go Go.Proofs
namespace Tab
structure Op3 where
  kind : Int
  k : ByteArray
  v : ByteArray
def encOp (o : Op3) : List Value := [.int .i64 o.kind, .string o.k, .string o.v]
theorem encOp_len (o : Op3) : (encOp o).length = 3 := rfl
abbrev QT2 : Value → AH → Prop := fun v _ => v = .bool true
theorem aw_ok2 (h : AH) : Ok ((C k_law20_awake [] h).bind fun r => ((asB r.1).bind fun b => (some ((.bool b), r.2)))) QT2 := by
  rw [C_closed (show closedL.any (Nat.beq k_law20_awake) = true from rfl) h]
  exact Ok.some rfl
theorem rdO {h : AH} {a : Option Addr} {ops : List Op3} {i : Nat} {o : Op3} (hr : Rd h a (ops.flatMap encOp)) (hx : ops[i]? = some o) :
    ∃ ad, a = some ad ∧ h.ldI .i64 ad.block (ad.off + i * 3) = some o.kind ∧ h.ldStr ad.block (ad.off + i * 3 + 1) = some o.k ∧ h.ldStr ad.block (ad.off + i * 3 + 2) = some o.v := by
  have hg : ∀ r, r < 3 → (ops.flatMap encOp)[i * 3 + r]? = (encOp o)[r]? := fun r h3 => flat_get_some encOp_len h3 hx
  rcases hr with h0 | ⟨ad, c, op, ro, e, rfl, h1, h2, h3⟩
  · exfalso
    have := hg 0 (by omega)
    rw [h0] at this
    cases this
  · refine ⟨ad, rfl, AH.ldI_of h1 ?_, AH.ldStr_of h1 ?_, AH.ldStr_of h1 ?_⟩
    · exact h3 (i * 3) _ (hg 0 (by omega))
    · rw [Nat.add_assoc]; exact h3 _ _ (hg 1 (by omega))
    · rw [Nat.add_assoc]; exact h3 _ _ (hg 2 (by omega))
/-- the key of an entry -/
theorem ls_setk {h : AH} {b n : Nat} {L : List En} {F : List Asr} (w : H h (aLs b n L :: F)) {i : Nat} {e : En} (he : L[i]? = some e) (v : ByteArray) : ∃ h', h.st b (0 + i * 3 + 1) [.string v] = some h' ∧ H h' (aLs b n (L.set i ⟨e.u, v, e.v⟩) :: F) := by
  obtain ⟨rest, hr, w⟩ := ls_op w
  have hi := (List.getElem?_eq_some_iff.mp he).1
  obtain ⟨h', k1, w1, _⟩ := w.st (o := 0 + i * 3 + 1) [.string v] (by rw [List.length_append, fl_len]; simp; omega)
  refine ⟨h', k1, ?_⟩
  have hsp : L.flatMap cE ++ rest = ((L.take i).flatMap cE ++ [Value.bool e.u]) ++ (.string e.k :: .string e.v :: ((L.drop (i + 1)).flatMap cE ++ rest)) := by
    rw [fl_split L i, List.drop_eq_getElem_cons hi, (List.getElem?_eq_some_iff.mp he).2]
    simp
  have hlen : ((L.take i).flatMap cE ++ [Value.bool e.u]).length = 0 + i * 3 + 1 := by rw [List.length_append, fl_len, List.length_take, Nat.min_eq_left (by omega)]; simp
  rw [hsp, ← hlen, setL_app (by simp)] at w1
  have hfin : ((L.take i).flatMap cE ++ [Value.bool e.u]) ++ [.string v] ++ (Value.string e.k :: Value.string e.v :: ((L.drop (i + 1)).flatMap cE ++ rest)).drop [Value.string v].length = (L.set i ⟨e.u, v, e.v⟩).flatMap cE ++ rest := by
    rw [List.set_eq_take_append_cons_drop, if_pos hi]
    simp
  rw [hfin] at w1
  refine ls_cl ?_ w1
  rw [List.length_append, fl_len, List.length_set]
  rw [List.length_append, fl_len] at hr
  exact hr
section
variable {a3 : Option Addr} {l4 c5 x t B M : Nat} {ops : List Op3}
abbrev aOps (a3 : Option Addr) (ops : List Op3) : Asr := aRds [(a3, ops.flatMap encOp)]
abbrev St4 (a : Option Addr) (n c : Nat) (l : List Pr) (x t B M : Nat) (a3 : Option Addr) (ops : List Op3) : List Asr := [aPl a n c l, aX x t B M, aTb t 250 B M l, aOps a3 ops]
/-- the cells in the end -/
theorem end_loop {l : List Pr} (hl : l.length ≤ M) (hM : M ≤ 200) (hB : B + M ≤ 250) {a : Option Addr} {n c : Nat} : ∀ (k i : Nat) (h : AH), M - i = k → i ≤ M → H h (St4 a n c l x t B M a3 ops) →
    Ok (law20_TableTells_L1 (M : Int) n a (some ⟨t, 0, none⟩) (B : Int) c (i : Nat) h) QT2 := by
  intro k
  induction k with
  | zero =>
    intro i h hk hi w
    refine Ok.le ?_ law20_TableTells_L1_le
    rw [dec_f (by omega), cond_f]
    refine Ok.le ?_ law20_TableTells_j1_le
    exact aw_ok2 h
  | succ k ih =>
    intro i h hk hi w
    have hn := pl_len w
    refine Ok.le ?_ law20_TableTells_L1_le
    rw [dec_t (by omega), cond_t]
    refine Ok.le ?_ law20_TableTells_j4_le
    obtain ⟨e, he⟩ : ∃ e, (Tb l M)[i]? = some e := ⟨_, Tb_get (by omega)⟩
    have key : ∀ (h : AH) (p : Nat), H h (Cs p (cE e) 3 :: St4 a n c l x t B M a3 ops) → Ok (law20_TableTells_j3 (some ⟨t, 0, none⟩) (B : Int) (i : Nat) (M : Int) n a c (some ⟨p, 0, none⟩) h) QT2 := fun h p w => by
      refine Ok.le ?_ law20_TableTells_j3_le
      rw [show IntKind.wrap .i64 ((B : Int) + ((i : Nat) : Int)) = ((B + i : Nat) : Int) by rw [wrap64 (by omega) (by omega)]; omega]
      refine Ok.bind (tab_read (w.mv 3 rfl) he) ?_
      rintro _ h2 ⟨rfl, w2⟩
      simp only [asTu_t, Option.bind_some, hdO_c, asAg_t, asB_b, asStr_s, asI_i64, List.isEmpty_nil, cond_t]
      obtain ⟨h4, k1, w4, k2⟩ := w2.var [.bool false, .string (ByteArray.mk #[]), .string (ByteArray.mk #[])] (cE e) 3 rfl
      have g4 := w4.get
      have gp := w4.g 2 rfl
      simp only [k1, Option.bind_some, decide_true, Bool.not_true, cond_f, AH.ldB_of g4 (o := 0) rfl, AH.ldStr_of g4 (o := 0 + 1) rfl, AH.ldStr_of g4 (o := 0 + 2) rfl, AH.ldB_of gp (o := 0) rfl, AH.ldStr_of gp (o := 0 + 1) rfl, AH.ldStr_of gp (o := 0 + 2) rfl,
        seqB_iff.mpr rfl, beq_self_eq_true, Bool.and_self]
      refine Ok.le ?_ law20_TableTells_j2_le
      rw [show IntKind.wrap .i64 (((i : Nat) : Int) + 1) = ((i + 1 : Nat) : Int) by rw [wrap64 (by omega) (by omega)]; omega]
      exact ih (i + 1) h4 (by omega) (by omega) ((w4.drop.rm 1 rfl).pm [1, 2, 0])
    obtain ⟨h2, k1, w2, k2⟩ := w.var [.bool false, .string (ByteArray.mk #[]), .string (ByteArray.mk #[])] (cE E0) 3 rfl
    simp only [k1, Option.bind_some]
    by_cases hil : i < l.length
    · obtain ⟨p, hp⟩ : ∃ p, l[i]? = some p := ⟨_, List.getElem?_eq_getElem hil⟩
      have hee : e = toE p := by
        rw [Tb_get (by omega), hp] at he
        exact (Option.some.inj he).symm
      subst hee
      obtain ⟨ad, ea, e1, e2⟩ := rd2 ((w2.mv 1 rfl).ow.rd) hp
      obtain ⟨h3, k3, w3, k4⟩ := w2.st (o := 0) (cE (toE p)) (by simp)
      rw [dec_t (by omega), cond_t]
      simp only [ea, Option.bind_some, inB_t (show (0 : Int) ≤ ((i : Nat) : Int) by omega) (show ((i : Nat) : Int) < ((n : Nat) : Int) by omega), cond_t, Int.toNat_natCast, Nat.add_zero, e1, e2, k3]
      rw [← ea]
      exact key h3 h.n w3
    · have hee : e = E0 := by
        rw [Tb_get (by omega), List.getElem?_eq_none (by omega)] at he
        exact (Option.some.inj he).symm
      subst hee
      rw [dec_f (by omega), cond_f]
      exact key h2 h.n w2
/-- a list that is told, and spoilt -/
theorem spoil_loop {l : List Pr} {a : Option Addr} {n c b i : Nat} {hl : l.length ≤ M} (hM : M ≤ 200) (nx : ∀ h', H h' (St4 a n c l x t B M a3 ops) → Ok (law20_TableTells_j6 l4 a3 (M : Int) (some ⟨x, 0, none⟩) (some ⟨t, 0, none⟩) c5 (B : Int) (i : Nat) a n c h') QT2) :
    ∀ (m k : Nat) (h : AH) (Lk : List En), l.length - k = m → k ≤ l.length → Lk.length = l.length → (∀ j, k ≤ j → Lk[j]? = (l.map toE)[j]?) → H h (aLs b M Lk :: St4 a n c l x t B M a3 ops) →
    Ok (law20_TableTells_L3 (some ⟨b, 0, none⟩) (l.map toE).length a n opn (i : Nat) c (some ⟨x, 0, none⟩) (some ⟨t, 0, none⟩) a3 l4 c5 (M : Int) (B : Int) (((l.map toE).length : Nat) : Int) (k : Nat) h) QT2 := by
  intro m
  induction m with
  | zero =>
    intro k h Lk hk hi hLk hj w
    refine Ok.le ?_ law20_TableTells_L3_le
    refine Ok.le ?_ law20_TableTells_j11_le
    rw [dec_f (by rw [List.length_map]; omega), cond_f]
    exact nx h w.drop
  | succ m ih =>
    intro k h Lk hk hi hLk hj w
    have hn := pl_len w.u1
    refine Ok.le ?_ law20_TableTells_L3_le
    refine Ok.le ?_ law20_TableTells_j11_le
    rw [dec_t (by rw [List.length_map]; omega), cond_t]
    refine Ok.le ?_ law20_TableTells_j10_le
    obtain ⟨p, hp⟩ : ∃ p, l[k]? = some p := ⟨_, List.getElem?_eq_getElem (by omega)⟩
    have hLp : Lk[k]? = some (toE p) := by rw [hj k (Nat.le_refl _), List.getElem?_map, hp]; rfl
    obtain ⟨ad, ea, e1, e2, e3⟩ := rd3 (ls_rd w) hLp
    obtain rfl := Option.some.inj ea
    obtain ⟨ad2, ea2, r1, r2⟩ := rd2 (w.u1.ow.rd) hp
    have i1 := inB_t (show (0 : Int) ≤ ((k : Nat) : Int) by omega) (show ((k : Nat) : Int) < (((l.map toE).length : Nat) : Int) by rw [List.length_map]; omega)
    have i2 := inB_t (show (0 : Int) ≤ ((k : Nat) : Int) by omega) (show ((k : Nat) : Int) < ((n : Nat) : Int) by omega)
    simp only [ea2, Option.bind_some, i1, i2, cond_t, Int.toNat_natCast, Nat.add_zero, e1, e2, e3, r1, r2, seqB_iff.mpr rfl, beq_self_eq_true, Bool.and_self, Bool.not_true, cond_f]
    rw [← ea2]
    refine Ok.le ?_ law20_TableTells_j9_le
    obtain ⟨h2, k1, w2⟩ := ls_setk w hLp (ByteArray.mk #[115, 112, 111, 105, 108, 116])
    simp only [Option.bind_some, i1, cond_t, Int.toNat_natCast, k1]
    refine Ok.le ?_ law20_TableTells_j8_le
    rw [show IntKind.wrap .i64 (((k : Nat) : Int) + 1) = ((k + 1 : Nat) : Int) by rw [wrap64 (by omega) (by omega)]; omega]
    exact ih (k + 1) h2 _ (by omega) (by omega) (by rw [List.length_set]; exact hLk) (fun j hj2 => by rw [List.getElem?_set_ne (by omega)]; exact hj j (by omega)) w2
theorem op_loop (hl4 : l4 = ops.length) (hM0 : 0 < M) (hM : M ≤ 200) (hB : B + M ≤ 250) : ∀ (m i : Nat) (a : Option Addr) (n c : Nat) (l : List Pr) (h : AH), 120 - i = m → i ≤ 120 → Srt l → l.length ≤ M → H h (St4 a n c l x t B M a3 ops) →
    Ok (law20_TableTells_L2 l4 a3 (M : Int) (some ⟨x, 0, none⟩) (some ⟨t, 0, none⟩) c5 (B : Int) a n c (i : Nat) h) QT2 := by
  have fin : ∀ (a : Option Addr) (n c : Nat) (l : List Pr) (h : AH), l.length ≤ M → H h (St4 a n c l x t B M a3 ops) → Ok (law20_TableTells_j5 (M : Int) n a (some ⟨t, 0, none⟩) (B : Int) c h) QT2 := fun a n c l h hl w => by
    refine Ok.le ?_ law20_TableTells_j5_le
    exact end_loop hl hM hB M 0 h (by omega) (by omega) w
  intro m
  induction m with
  | zero =>
    intro i a n c l h hk hi hs hl w
    refine Ok.le ?_ law20_TableTells_L2_le
    by_cases h1 : i < l4
    · rw [dec_t (by omega), cond_t, dec_f (by omega), cond_f]; exact fin a n c l h hl w
    · rw [dec_f (by omega), cond_f]; exact fin a n c l h hl w
  | succ m ih =>
    intro i a n c l h hk hi hs hl w
    refine Ok.le ?_ law20_TableTells_L2_le
    by_cases h1 : i < l4
    · rw [dec_t (by omega), cond_t, dec_t (by omega), cond_t]
      have nx : ∀ (a : Option Addr) (n c : Nat) (l : List Pr) (h : AH), Srt l → l.length ≤ M → H h (St4 a n c l x t B M a3 ops) → Ok (law20_TableTells_j6 l4 a3 (M : Int) (some ⟨x, 0, none⟩) (some ⟨t, 0, none⟩) c5 (B : Int) (i : Nat) a n c h) QT2 := fun a n c l h hs hl w => by
        refine Ok.le ?_ law20_TableTells_j6_le
        rw [show IntKind.wrap .i64 (((i : Nat) : Int) + 1) = ((i + 1 : Nat) : Int) by rw [wrap64 (by omega) (by omega)]; omega]
        exact ih (i + 1) a n c l h (by omega) (by omega) hs hl w
      refine Ok.le ?_ law20_TableTells_j14_le
      obtain ⟨o, ho⟩ : ∃ o, ops[i]? = some o := ⟨_, List.getElem?_eq_getElem (by omega)⟩
      have hn := pl_len w
      have hro : Rd h a3 (ops.flatMap encOp) := (w.mv 3 rfl).rds (p := (a3, ops.flatMap encOp)) (by simp)
      obtain ⟨ad, ea, e1, e2, e3⟩ := rdO hro ho
      obtain ⟨h2, k1, w2, k2⟩ := w.var [.int .i64 0, .string (ByteArray.mk #[]), .string (ByteArray.mk #[])] [.int .i64 o.kind, .string o.k, .string o.v] 3 rfl
      have g2 := w2.get
      simp only [ea, Option.bind_some, inB_t (show (0 : Int) ≤ ((i : Nat) : Int) by omega) (show ((i : Nat) : Int) < ((l4 : Nat) : Int) by omega), cond_t, Int.toNat_natCast, e1, e2, e3, k1, AH.ldI_of g2 (o := 0 + 0) rfl]
      rw [← ea]
      have key : ∀ b33, Ok (law20_TableTells_j13 h2 a n c (M : Int) (some ⟨x, 0, none⟩) l4 a3 (some ⟨t, 0, none⟩) c5 (B : Int) (i : Nat) o.kind (some ⟨h.n, 0, none⟩) b33) QT2 := fun b33 => by
        refine Ok.le ?_ law20_TableTells_j13_le
        simp only [Option.bind_some, AH.ldStr_of g2 (o := 0 + 1) rfl, AH.ldStr_of g2 (o := 0 + 2) rfl]
        cases b33 with
        | true =>
          rw [cond_t]
          refine Ok.bind (rput_ok hs (by omega) M o.k o.v w2.u1) ?_
          rintro _ h3 ⟨a2, n2, c2, rfl, w3⟩
          have g3 := w3.g 1 rfl
          simp only [asTu_t, Option.bind_some, hdO_c, asS_s, asI_i64, List.isEmpty_nil, cond_t, AH.ldStr_of g3 (o := 0 + 1) rfl, AH.ldStr_of g3 (o := 0 + 2) rfl]
          have w4 : H h3 (aX x t B M :: aTb t 250 B M l :: aPl a2 n2 c2 (putP l M o.k o.v).1 :: Cs h.n [.int .i64 o.kind, .string o.k, .string o.v] 3 :: aOps a3 ops :: []) := w3.pm [2, 3, 0, 1]
          refine Ok.bind (putP_ok hs hl hM0 o.k o.v w4) ?_
          rintro _ h5 ⟨rfl, w5⟩
          simp only [asI_i64, Option.bind_some, decide_true, Bool.not_true, cond_f]
          exact nx _ _ _ _ h5 (put_srt hs M o.k o.v) (put_len hs hl o.k o.v) ((w5.rm 3 rfl).pm [2, 0, 1])
        | false =>
          rw [cond_f]
          by_cases c3 : o.kind = 3
          · rw [dec_t c3, cond_t]
            refine Ok.bind (getP_ok hs hl hM0 o.k (w2.pm [2, 3, 0, 1])) ?_
            rintro _ h3 ⟨rfl, w3⟩
            have w3' : H h3 (aX x t B M :: aTb t 250 B M l :: Cs h.n [.int .i64 o.kind, .string o.k, .string o.v] 3 :: aPl a n c l :: aOps a3 ops :: []) := w3
            have g3 := w3'.g 2 rfl
            simp only [asTu_t, Option.bind_some, hdO_c, asB_b, asStr_s, asI_i64, List.isEmpty_nil, cond_t, AH.ldStr_of g3 (o := 0 + 1) rfl]
            refine Ok.bind (rget_ok hs (by omega) hn ((w3'.mv 3 rfl).ow.rd) o.k) ?_
            rintro _ h4 ⟨rfl, rfl⟩
            simp only [asTu_t, Option.bind_some, hdO_c, asB_b, asStr_s, asI_i64, List.isEmpty_nil, cond_t, seqB_iff.mpr rfl, Bool.not_true, cond_f, beq_self_eq_true, decide_true]
            exact nx _ _ _ _ _ hs hl ((w3'.rm 2 rfl).pm [2, 0, 1])
          · rw [dec_f c3, cond_f]
            by_cases c4 : o.kind = 4
            · rw [dec_t c4, cond_t]
              refine Ok.bind (rrem_ok hs (by omega) o.k w2.u1) ?_
              rintro _ h3 ⟨a2, n2, c2, rfl, w3⟩
              have g3 := w3.g 1 rfl
              simp only [asTu_t, Option.bind_some, hdO_c, asS_s, asB_b, List.isEmpty_nil, cond_t, AH.ldStr_of g3 (o := 0 + 1) rfl]
              have w4 : H h3 (aX x t B M :: aTb t 250 B M l :: aPl a2 n2 c2 (remP l o.k) :: Cs h.n [.int .i64 o.kind, .string o.k, .string o.v] 3 :: aOps a3 ops :: []) := w3.pm [2, 3, 0, 1]
              refine Ok.bind (remP_ok hs hl hM0 o.k w4) ?_
              rintro _ h5 ⟨rfl, w5⟩
              simp only [asTu_t, Option.bind_some, hdO_c, asB_b, asI_i64, List.isEmpty_nil, cond_t, beq_self_eq_true, Bool.not_true, cond_f, decide_true]
              exact nx _ _ _ _ h5 (rem_srt hs o.k) (rem_len hl o.k) ((w5.rm 3 rfl).pm [2, 0, 1])
            · rw [dec_f c4, cond_f]
              by_cases c5' : o.kind = 5
              · rw [dec_t c5', cond_t]
                refine Ok.bind (nxtP_ok hs hl hM0 o.k (w2.pm [2, 3, 0, 1])) ?_
                rintro _ h3 ⟨rfl, w3⟩
                have w3' : H h3 (aX x t B M :: aTb t 250 B M l :: Cs h.n [.int .i64 o.kind, .string o.k, .string o.v] 3 :: aPl a n c l :: aOps a3 ops :: []) := w3
                obtain ⟨e, be, hV, hR⟩ : ∃ (e : En) (be : Bool), nxtV (nxtP l o.k) = .tuple #[vE e, .bool be, .int .i64 0] ∧ rnxV (nxtP l o.k) = .tuple #[.agg #[.string e.k, .string e.v], .bool be] ∧ e.u = be := by
                  cases nxtP l o.k with
                  | none => exact ⟨E0, false, rfl, rfl, rfl⟩
                  | some p => exact ⟨toE p, true, rfl, rfl, rfl⟩
                obtain ⟨hR, hU⟩ := hR
                rw [hV]
                simp only [asTu_t, Option.bind_some, hdO_c, asAg_t, asB_b, asStr_s, asI_i64, List.isEmpty_nil, cond_t]
                obtain ⟨h4, k4, w4, _⟩ := w3'.var [.bool false, .string (ByteArray.mk #[]), .string (ByteArray.mk #[])] (cE e) 3 rfl
                have g4 := w4.g 3 rfl
                simp only [k4, Option.bind_some, AH.ldStr_of g4 (o := 0 + 1) rfl]
                have w5 : H h4 (aPl a n c l :: Cs h3.n (cE e) 3 :: aX x t B M :: aTb t 250 B M l :: Cs h.n [.int .i64 o.kind, .string o.k, .string o.v] 3 :: aOps a3 ops :: []) := w4.pm [4, 0, 1, 2, 3]
                refine Ok.bind (rnext_ok hs (by omega) w5 o.k) ?_
                rintro _ h6 ⟨rfl, w6⟩
                rw [hR]
                simp only [asTu_t, Option.bind_some, hdO_c, asAg_t, asB_b, asStr_s, asI_i64, List.isEmpty_nil, cond_t]
                obtain ⟨h7, k7, w7, _⟩ := w6.var [.string (ByteArray.mk #[]), .string (ByteArray.mk #[])] [.string e.k, .string e.v] 2 rfl
                have g7 := w7.get
                have g8 := w7.g 2 rfl
                simp only [k7, Option.bind_some, AH.ldStr_of g7 (o := 0 + 0) rfl, AH.ldStr_of g7 (o := 0 + 1) rfl, AH.ldB_of g8 (o := 0 + 0) rfl, AH.ldStr_of g8 (o := 0 + 1) rfl, AH.ldStr_of g8 (o := 0 + 2) rfl, seqB_iff.mpr rfl, Bool.not_true, cond_f, hU, beq_self_eq_true, decide_true]
                refine Ok.le ?_ law20_TableTells_j7_le
                rw [cond_f]
                exact nx _ _ _ _ h7 hs hl (((w7.drop.rm 1 rfl).rm 3 rfl))
              · rw [dec_f c5', cond_f]
                by_cases c6 : o.kind = 6
                · rw [dec_t c6, cond_t]
                  refine Ok.bind (listP_ok hs hl hM0 (w2.pm [2, 3, 0, 1])) ?_
                  rintro _ h3 ⟨b, rfl, w3⟩
                  simp only [asTu_t, Option.bind_some, hdO_c, asS_s, asI_i64, List.isEmpty_nil, cond_t, decide_true, Bool.not_true, cond_f, dec_t (show (((l.map toE).length : Nat) : Int) = ((n : Nat) : Int) by rw [List.length_map]; omega)]
                  refine Ok.le ?_ law20_TableTells_j12_le
                  have w4 : H h3 (aLs b M (l.map toE) :: St4 a n c l x t B M a3 ops) := (w3.rm 3 rfl).pm [0, 3, 1, 2]
                  exact spoil_loop (hl := hl) hM (fun h' w' => nx _ _ _ _ h' hs hl w') l.length 0 h3 _ (by omega) (by omega) (by simp) (fun j _ => rfl) w4
                · rw [dec_f c6, cond_f]
                  exact nx _ _ _ _ h2 hs hl w2.drop
      by_cases d0 : o.kind = 0
      · rw [dec_t d0, cond_t]; exact key _
      · rw [dec_f d0, cond_f]
        by_cases d1 : o.kind = 1
        · rw [dec_t d1, cond_t]; exact key _
        · rw [dec_f d1, cond_f]; exact key _
    · rw [dec_f (by omega), cond_f]; exact fin a n c l h hl w
end
def goodOp (o : Op3) : Prop := True
theorem Tells_main (h : AH) (x1 : Int) (w1 : (Lit.int .i64 x1).wf = true) (x2 : Int) (w2 : (Lit.int .i64 x2).wf = true) {a3 : Option Addr} {l4 c5 : Nat} {ops : List Op3} (s0 : SlIn h encOp (fun _ => True) a3 l4 c5 ops) : Ok (C k_law20_TableTells [.int .i64 x1, .int .i64 x2, .slice a3 l4 c5] h) QT2 := by
  refine Ok.le ?_ law20_TableTells_le
  have hro : Rd h a3 (ops.flatMap encOp) := s0.rd
  have w : H h [aOps a3 ops] := H.args (by
    intro p hp
    simp only [List.mem_cons, List.not_mem_nil, or_false] at hp
    subst hp
    exact hro)
  refine Ok.bind (begun_ok (N := 250) (by decide) (by decide) x1 x2 w) ?_
  rintro v h2 hv
  have bad : ∀ (t : Nat) (h2 : AH), Ok (law20_TableTells_j18 2 l4 a3 x2 (none : Option Addr) (some ⟨t, 0, none⟩) c5 x1 false h2) QT2 := fun t h2 => by
    refine Ok.le ?_ law20_TableTells_j18_le
    simp only [dec_f (show ¬ (2 : Int) = 0 by decide), beq_self_eq_true, Bool.not_true, cond_f, Bool.not_false, cond_t, decide_true, Option.isNone_none]
    refine Ok.le ?_ law20_TableTells_j17_le
    rw [cond_f]
    refine Ok.le ?_ law20_TableTells_j16_le
    rw [Bool.not_false, cond_t]
    exact aw_ok2 h2
  by_cases hc : 1 ≤ x2 ∧ x2 ≤ 200 ∧ 0 ≤ x1 ∧ x1 + x2 ≤ (250 : Nat)
  · rw [if_pos hc] at hv
    obtain ⟨t, x, rfl, w3⟩ := hv
    obtain ⟨B, rfl⟩ : ∃ B : Nat, x1 = B := ⟨x1.toNat, by omega⟩
    obtain ⟨M, rfl⟩ : ∃ M : Nat, x2 = M := ⟨x2.toNat, by omega⟩
    simp only [Int.toNat_natCast] at w3
    simp only [asTu_t, Option.bind_some, hdO_c, asP_p, asI_i64, List.isEmpty_nil, cond_t, dec_f (show ¬ (M : Int) < 1 by omega), Bool.not_false, dec_t (show (M : Int) ≤ 200 by omega), dec_f (show ¬ (B : Int) < 0 by omega),
      wrap64 (show -9223372036854775808 ≤ (250 : Int) - M by omega) (show (250 : Int) - M < 9223372036854775808 by omega), dec_t (show (B : Int) ≤ 250 - M by omega)]
    refine Ok.le ?_ law20_TableTells_j18_le
    simp only [decide_true, beq_self_eq_true, Bool.not_true, cond_f]
    refine Ok.le ?_ law20_TableTells_j17_le
    rw [cond_f]
    refine Ok.le ?_ law20_TableTells_j16_le
    rw [Bool.not_true, cond_f]
    refine Ok.le ?_ law20_TableTells_j15_le
    have hTb : List.replicate M E0 = Tb [] M := by unfold Tb; simp
    rw [hTb] at w3
    have w4 : H h2 (St4 none 0 0 [] x t B M a3 ops) := w3.owNil 2
    exact op_loop s0.len (by omega) (by omega) (by omega) 120 0 none 0 0 [] h2 (by omega) (by omega) List.Pairwise.nil (Nat.zero_le _) w4
  · rw [if_neg hc] at hv
    obtain ⟨t, rfl, w3⟩ := hv
    simp only [asTu_t, Option.bind_some, hdO_c, asP_p, asI_i64, List.isEmpty_nil, cond_t]
    by_cases c1 : x2 < 1
    · rw [dec_t c1, Bool.not_true, cond_f]; exact bad t h2
    · rw [dec_f c1, Bool.not_false, cond_t]
      by_cases c2 : x2 ≤ 200
      · rw [dec_t c2, cond_t]
        by_cases c3 : x1 < 0
        · rw [dec_t c3, Bool.not_true, cond_f]; exact bad t h2
        · rw [dec_f c3, Bool.not_false, cond_t, wrap64 (show -9223372036854775808 ≤ (250 : Int) - x2 by omega) (show (250 : Int) - x2 < 9223372036854775808 by omega), dec_f (show ¬ x1 ≤ 250 - x2 by omega)]
          exact bad t h2
      · rw [dec_f c2, cond_f]; exact bad t h2
end Tab
end Go.Lg.Try
