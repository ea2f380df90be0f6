/- TableMap: a table tells what was put last under each key, in the order of the keys, and still does so in the next transaction. -/
import Derived.Test.YtciiigaagggefaaGreatFlaw20
import Derived.Test.YtciiigaagggefaaGreatPuMap
namespace Go.Lg.Tryz
set_option linter.unusedVariables false
set_option linter.unusedSimpArgs false
open Go Go.Proofs
namespace Tab
structure Op3 where
  kind : Int
  k : ByteArray
  v : ByteArray
def encOp (o : Op3) : List Value := [.int .i64 o.kind, .string o.k, .string o.v]
theorem encOp_len (o : Op3) : (encOp o).length = 3 := rfl
abbrev QM : Value → AH → Prop := fun v _ => v = .bool true
theorem aw_okM (h : AH) : Ok ((C k_law20_awake [] h).bind fun r => ((asB r.1).bind fun b => law20_TableMap_j1 b r.2)) QM := by
  rw [C_closed (show closedL.any (Nat.beq k_law20_awake) = true from rfl) h]
  exact Ok.le (Ok.some rfl) law20_TableMap_j1_le
theorem rdO {h : AH} {a : Option Addr} {ops : List Op3} {i : Nat} {o : Op3} (hr : Rd h a (ops.flatMap encOp)) (hx : ops[i]? = some o) :
    ∃ ad, a = some ad ∧ h.ldI .i64 ad.block (ad.off + i * 3) = some o.kind ∧ h.ldStr ad.block (ad.off + i * 3 + 1) = some o.k ∧ h.ldStr ad.block (ad.off + i * 3 + 2) = some o.v := by
  have hg : ∀ r, r < 3 → (ops.flatMap encOp)[i * 3 + r]? = (encOp o)[r]? := fun r h3 => flat_get_some encOp_len h3 hx
  rcases hr with h0 | ⟨ad, c, op, ro, e, rfl, h1, h2, h3⟩
  · exfalso
    have := hg 0 (by omega)
    rw [h0] at this
    cases this
  · refine ⟨ad, rfl, AH.ldI_of h1 ?_, AH.ldStr_of h1 ?_, AH.ldStr_of h1 ?_⟩
    · exact h3 (i * 3) _ (hg 0 (by omega))
    · rw [Nat.add_assoc]; exact h3 _ _ (hg 1 (by omega))
    · rw [Nat.add_assoc]; exact h3 _ _ (hg 2 (by omega))
/-- the memory between two transactions -/
structure RS (μ : MD) (l : List Pr) : Prop where
  len : μ.cs.length = 70
  at_ : ∀ (i : Nat) x c, (Tb l 60)[i]? = some x → μ.cs[5 + i]? = some c → c.v = x
  cl : ∀ c ∈ μ.cs, c.own = 0 ∧ 0 ≤ c.ver ∧ c.ver ≤ μ.clk
section
variable {h : AH} {F : List Asr} {μ : MD} {t s x : Nat} {l want : List Pr} {r : Nat} {a1 : Option Addr} {l2 c3 : Nat} {x4 : Int} {ops : List Op3}
theorem of60 (hcs : μ.cs.length = 70) {σ : St} (w : H h (TP t μ s σ ++ F)) : Ok (C k_table_Of [ptr t, .int .i64 5, .int .i64 60] h) fun v h' => ∃ x, v = .tuple #[ptr x, .int .i64 0] ∧ H h' (aX x t 5 60 :: (TP t μ s σ ++ F)) := by
  have wt : H h (aT t (X0 μ s) :: _) := w
  have wm : H h (aT t (X0 μ s) :: aMem (X0 μ s).p μ.q μ.cs μ.clk :: aSet s σ :: F) := w.pm [0, 2, 1]
  refine Ok.le ?_ table_Of_le
  simp only [F_table_Of, txStatus wt, Option.bind_some, asI_u8', dec_f (show ¬ (1 : Int) = 0 by decide), cond_f, dec_f (show ¬ (60 : Int) < 1 by decide), dec_f (show ¬ (200 : Int) < 60 by decide), dec_f (show ¬ (5 : Int) < 0 by decide), txCells wm, asI_i64, hcs]
  rw [show decide (IntKind.wrap .i64 (((70 : Nat) : Int) - 60) < 5) = false by rw [wrap64 (by decide) (by decide)]; rfl]
  refine Ok.le ?_ table_Of_j2_le
  rw [cond_f]
  refine Ok.le ?_ table_Of_j1_le
  have w1 := w.push (.cells [.pointer (some ⟨t, 0, none⟩), .int .i64 5, .int .i64 60] false false 3)
  exact Ok.some ⟨_, rfl, w1⟩
abbrev aW (r : Nat) (want : List Pr) : Asr := Mt.aM vS r want
abbrev aOps (a1 : Option Addr) (ops : List Op3) : Asr := aRds [(a1, ops.flatMap encOp)]
theorem wLookM {want : List Pr} {h : AH} (w : H h (aW r want :: F)) (k : ByteArray) : ∃ es, mapOf h (.map (some r)) = some es ∧ es.length = want.length ∧ lookE Tryz.prog .string 9 (.string k) es = some (.string ((Mt.alook want k).getD ⟨#[]⟩), Mt.aok (Mt.alook want k)) := by
  obtain ⟨es, e1, e2, e3⟩ := (Mt.m_at w).map
  refine ⟨es, e1, e2, ?_⟩
  rw [Mt.look_eq (z0 := .string ⟨#[]⟩) (by kernel_rfl) e3]
  cases Mt.alook want k <;> rfl
/-- the end of a round: its transaction is done, the table reads on as it did -/
theorem round_end {half : Int} {k : Int} {i : Int} (hsr : Srt l) (hl : l.length ≤ 50) (hclk : μ.clk ≤ 10) (hcs : μ.cs.length = 70) (w : H h (aTab t μ 5 60 (Tb l 60) :: F))
    (hfin : ∀ h' cs' clk', RS ⟨μ.p, μ.q, cs', clk'⟩ l → clk' ≤ μ.clk + 1 → H h' (aMem μ.p μ.q cs' clk' :: F) → Ok (law20_TableMap_j3 (some ⟨μ.p, 0, none⟩) half a1 l2 c3 (some r) i k h') QM) :
    Ok (law20_TableMap_j8 (some ⟨t, 0, none⟩) k i (some r) (some ⟨μ.p, 0, none⟩) half a1 l2 c3 h) QM := by
  refine Ok.le ?_ law20_TableMap_j8_le
  obtain ⟨s, σ, I, w⟩ := tab_op w
  obtain ⟨A, Aw, f⟩ := set_sf (w.mv 1 rfl)
  have hWn : (σ.W.map Prod.fst).Nodup := f.w.nk
  have hRn : (σ.R.map Prod.fst).Nodup := f.r.nk
  have hWl := nodup_range 60 5 _ hWn fun a ha => by have := I.wk a ha; omega
  have hRl := nodup_range 60 5 _ hRn fun a ha => by have := I.rk a ha; omega
  rw [List.length_map] at hWl hRl
  have wk : Wk (σ.W.map Prod.fst) := fun a ha => by have := I.wk a ha; simp [Lit.wf, IntKind.min, IntKind.max, IntKind.bits, IntKind.signed]; omega
  have rk : Wk (σ.R.map Prod.fst) := fun a ha => by have := I.rk a ha; simp [Lit.wf, IntKind.min, IntKind.max, IntKind.bits, IntKind.signed]; omega
  have hsW : (sortI (σ.W.map Prod.fst)).Nodup := (List.mergeSort_perm (σ.W.map Prod.fst) _).nodup_iff.mpr hWn
  obtain ⟨cs', clk', hc, L, hz, run⟩ := runs_all (σ := σ) (X := X0 μ s) (cs := μ.cs) (clk := μ.clk) (W := sortI (σ.W.map Prod.fst)) (R := sortI (σ.R.map Prod.fst)) rfl I.cl (by omega) hsW (by rw [sortI_len, List.length_map]; omega)
    (fun i hi => by have := I.wk i (sortI_mem.mp hi); rw [hcs]; omega) (fun i hi => by have := I.rk i (sortI_mem.mp hi); rw [hcs]; omega)
    (fun i c hi hc => by
      obtain ⟨v, hv⟩ := Mg.alook_mem.mpr (sortI_mem.mp hi)
      have := I.rv i c hc
      rw [hv] at this ⊢
      exact this)
  rw [sortI_len, List.length_map] at run
  refine open_run w wk rk hWl hRl run fun h' w' => hfin h' cs' clk' ⟨?_, ?_, ?_⟩ (by omega) w'
  · show cs'.length = 70
    rw [L.len, hcs]
  · intro i x c hx hc'
    have hi : i < 60 := by have := (List.getElem?_eq_some_iff.mp hx).1; rw [Tb_len (l := l) (n := 60) (by omega)] at this; exact this
    obtain ⟨c0, hc0⟩ : ∃ c0, μ.cs[5 + i]? = some c0 := ⟨_, List.getElem?_eq_getElem (by omega)⟩
    have h1 := L.at_ (5 + i) c0 hc0
    have hc'' : cs'[5 + i]? = some c := hc'
    rw [hc''] at h1
    have h2 := Option.some.inj h1
    have h3 := I.at_ i x c0 hx hc0
    by_cases hm : ((5 + i : Nat) : Int) ∈ sortI (σ.W.map Prod.fst)
    · rw [if_pos hm] at h2
      obtain ⟨v, hv⟩ := Mg.alook_mem.mpr (sortI_mem.mp hm)
      rw [hv] at h3 h2
      rw [h2]
      exact h3
    · rw [if_neg hm, if_neg hm] at h2
      rw [Mg.alook_none fun hh => hm (sortI_mem.mpr hh)] at h3
      rw [h2]
      exact h3
  · intro c hcm
    obtain ⟨j, hj, e⟩ := List.mem_iff_getElem.mp hcm
    have hj : j < cs'.length := hj
    have hjc : cs'[j]? = some c := by rw [List.getElem?_eq_getElem hj]; exact congrArg some e
    obtain ⟨c0, hc0⟩ : ∃ c0, μ.cs[j]? = some c0 := ⟨_, List.getElem?_eq_getElem (by rw [L.len] at hj; exact hj)⟩
    have h1 := L.at_ j c0 hc0
    rw [hjc] at h1
    have h2 := Option.some.inj h1
    obtain ⟨o1, o2, o3⟩ := I.cl c0 (List.mem_of_getElem? hc0)
    have o4 : 0 ≤ μ.clk := Int.le_trans o2 o3
    show c.own = 0 ∧ 0 ≤ c.ver ∧ c.ver ≤ clk'
    by_cases hm : (j : Int) ∈ sortI (σ.W.map Prod.fst)
    · rw [if_pos hm] at h2
      have : clk' = μ.clk + 1 := hz.resolve_left fun e => by rw [e] at hm; cases hm
      rw [h2, this]
      exact ⟨rfl, by show 0 ≤ μ.clk + 1; omega, Int.le_refl _⟩
    · rw [if_neg hm, if_neg hm] at h2
      rw [h2]
      exact ⟨o1, o2, by omega⟩
/-- the list, entry by entry -/
theorem chk_loop {half k i : Int} {b : Nat} (hsr : Srt l) (hl : l.length ≤ 50) (hWR : WR want l) (nx : ∀ h', H h' (aX x t 5 60 :: aTab t μ 5 60 (Tb l 60) :: aW r want :: F) → Ok (law20_TableMap_j8 (some ⟨t, 0, none⟩) k i (some r) (some ⟨μ.p, 0, none⟩) half a1 l2 c3 h') QM) :
    ∀ (m j : Nat) (h : AH), l.length - j = m → j ≤ l.length → H h (aLs b 60 (l.map toE) :: aX x t 5 60 :: aTab t μ 5 60 (Tb l 60) :: aW r want :: F) →
    Ok (law20_TableMap_L3 (some r) (some ⟨t, 0, none⟩) k i (some ⟨μ.p, 0, none⟩) half a1 l2 c3 (some ⟨b, 0, none⟩) (l.map toE).length opn (((l.map toE).length : Nat) : Int) (j : Nat) h) QM := by
  intro m
  induction m with
  | zero =>
    intro j h hj hle w
    refine Ok.le ?_ law20_TableMap_L3_le
    refine Ok.le ?_ law20_TableMap_j13_le
    rw [dec_f (by rw [List.length_map]; omega), cond_f]
    exact nx h w.drop
  | succ m ih =>
    intro j h hj hle w
    refine Ok.le ?_ law20_TableMap_L3_le
    refine Ok.le ?_ law20_TableMap_j13_le
    rw [dec_t (by rw [List.length_map]; omega), cond_t]
    refine Ok.le ?_ law20_TableMap_j12_le
    obtain ⟨p, hp⟩ : ∃ p, l[j]? = some p := ⟨_, List.getElem?_eq_getElem (by omega)⟩
    have hm : (l.map toE)[j]? = some (toE p) := by rw [List.getElem?_map, hp]; rfl
    obtain ⟨ad, ea, e1, e2, e3⟩ := rd3 (ls_rd w) hm
    obtain rfl := Option.some.inj ea
    obtain ⟨h2, k1, w2, k2⟩ := w.var [.bool false, .string (ByteArray.mk #[]), .string (ByteArray.mk #[])] (cE (toE p)) 3 rfl
    have g2 := w2.get
    obtain ⟨es, m1, m2, m3⟩ := wLookM (w2.mv 4 rfl) p.1
    have hv : Mt.alook want p.1 = some p.2 := (hWR.at_ p.1 p.2).mpr (List.mem_of_getElem? hp)
    rw [hv] at m3
    simp only [Option.bind_some, inB_t (show (0 : Int) ≤ ((j : Nat) : Int) by omega) (show ((j : Nat) : Int) < (((l.map toE).length : Nat) : Int) by rw [List.length_map]; omega), cond_t, Int.toNat_natCast, Nat.add_zero, e1, e2, e3, k1, AH.ldStr_of g2 (o := 0 + 1) rfl, AH.ldStr_of g2 (o := 0 + 2) rfl, m1, m3, asStr_s,
      show Mt.aok (some p.2) = true from rfl, Bool.not_true, cond_f, Option.getD_some, seqB_iff.mpr rfl]
    refine Ok.le ?_ law20_TableMap_j9_le
    rw [show IntKind.wrap .i64 (((j : Nat) : Int) + 1) = ((j + 1 : Nat) : Int) by rw [wrap64 (by omega) (by omega)]; omega]
    exact ih (j + 1) h2 (by omega) (by omega) w2.drop
/-- the list of a round -/
theorem list_go {half k i : Int} (hsr : Srt l) (hl : l.length ≤ 50) (hWR : WR want l) (nx : ∀ h', H h' (aX x t 5 60 :: aTab t μ 5 60 (Tb l 60) :: aW r want :: F) → Ok (law20_TableMap_j8 (some ⟨t, 0, none⟩) k i (some r) (some ⟨μ.p, 0, none⟩) half a1 l2 c3 h') QM)
    (w : H h (aX x t 5 60 :: aTab t μ 5 60 (Tb l 60) :: aW r want :: F)) : Ok (law20_TableMap_j17 (some ⟨x, 0, none⟩) h (some ⟨t, 0, none⟩) k i (some r) (some ⟨μ.p, 0, none⟩) half a1 l2 c3) QM := by
  refine Ok.le ?_ law20_TableMap_j17_le
  refine Ok.bind (listP_ok hsr (by omega) (by decide) w) ?_
  rintro _ h2 ⟨b, rfl, w2⟩
  simp only [asTu_t, Option.bind_some, hdO_c, asS_s, asI_i64, List.isEmpty_nil, cond_t, List.length_map]
  obtain ⟨h3, k1, w3, k2⟩ := w2.var [.slice none 0 0] [.slice (some ⟨b, 0, none⟩) l.length opn] 1 rfl
  have hS : h3.ldS h2.n 0 = some (some ⟨b, 0, none⟩, l.length, opn) := AH.ldS_of w3.get rfl
  obtain ⟨es, m1, m2, _⟩ := wLookM (w3.mv 4 rfl) ⟨#[]⟩
  have hrd := ls_rd (w3.mv 1 rfl)
  have hright : rightB (l.map toE) = true := right_map hsr
  simp only [k1, Option.bind_some, decide_true, Bool.not_true, cond_f, hS, m1, m2, hWR.len]
  have hro := right_ok (c := opn) (L := l.map toE) (by rw [List.length_map]; omega) hrd
  rw [List.length_map] at hro
  refine Ok.bind hro ?_
  rintro _ h4 ⟨rfl, f4⟩
  have w4 := w3.fr f4
  have hS4 : h4.ldS h2.n 0 = some (some ⟨b, 0, none⟩, l.length, opn) := AH.ldS_of w4.get rfl
  have hrd4 := ls_rd (w4.mv 1 rfl)
  simp only [asB_b, Option.bind_some, hright, Bool.not_true, cond_f, hS4]
  have hkeys := keyL_of (a := some ⟨b, 0, none⟩) hrd4 l.length (Nat.le_refl _)
  rw [List.take_length] at hkeys
  have hsis : C k_sort_SliceIsSorted [ifV (some (42, .slice (some ⟨b, 0, none⟩) l.length opn)), fnV (some (k_law20_TableMap_1, [], [.pointer (some ⟨h2.n, 0, none⟩)]))] h4 = some (.bool true, h4) := by
    refine C_lib rfl ?_
    have hb : Nat.ble l.length 1000000 = true := Nat.ble_eq_true_of_le (by omega)
    have hstep : sisF 42 k_law20_TableMap_1 [ifV (some (42, .slice (some ⟨b, 0, none⟩) l.length opn)), fnV (some (k_law20_TableMap_1, [], [.pointer (some ⟨h2.n, 0, none⟩)]))] h4 = some (.bool true, h4) := by
      show (cond (Nat.beq k_law20_TableMap_1 k_law20_TableMap_1 && (Nat.beq 42 42 && Nat.ble l.length 1000000)) (match h4.ldS h2.n 0 with
        | some (some ⟨b2, o2, none⟩, n2, c2) => cond (Nat.beq b2 b && (Nat.beq o2 0 && Nat.beq n2 l.length)) ((keyL h4 b 0 l.length).bind fun l' => some (.bool (sisB (fun k => sltB (l'.getD (k + 1) ⟨#[]⟩) (l'.getD k ⟨#[]⟩)) l.length), h4)) none
        | _ => none) none : Res) = _
      rw [hb, hS4, hkeys]
      simp only [Nat.beq_refl, Bool.and_self, cond_t, Option.bind_some, sis_srt hsr l.length (Nat.le_refl _)]
    show orO (onK k_sort_SliceIsSorted (sisF 42 k_law20_TableMap_1)) _ k_sort_SliceIsSorted _ h4 = _
    unfold orO onK
    rw [Nat.beq_refl, cond_t, hstep]
    rfl
  simp only [hsis, Option.bind_some, asB_b, Bool.not_true]
  refine Ok.le ?_ law20_TableMap_j16_le
  rw [cond_f]
  refine Ok.le ?_ law20_TableMap_j14_le
  simp only [Option.bind_some, hS4]
  have := chk_loop (half := half) (k := k) (i := i) (b := b) hsr hl hWR nx l.length 0 h4 (by omega) (by omega) w4.drop
  rw [List.length_map] at this
  exact this
/-- the calls of a round -/
theorem op_loop {half : Int} {k : Nat} (hl2 : l2 = ops.length)
    (nx : ∀ (h' : AH) (l want : List Pr) (i : Nat), i ≤ 80 → Srt l → l.length ≤ 50 → WR want l → H h' (aX x t 5 60 :: aTab t μ 5 60 (Tb l 60) :: aW r want :: aOps a1 ops :: F) → Ok (law20_TableMap_j17 (some ⟨x, 0, none⟩) h' (some ⟨t, 0, none⟩) (k : Nat) (i : Nat) (some r) (some ⟨μ.p, 0, none⟩) half a1 l2 c3) QM) :
    ∀ (m i : Nat) (h : AH) (l want : List Pr), 80 - i = m → i ≤ 80 → Srt l → l.length ≤ 50 → WR want l → H h (aX x t 5 60 :: aTab t μ 5 60 (Tb l 60) :: aW r want :: aOps a1 ops :: F) →
    Ok (law20_TableMap_L4 l2 (k : Nat) a1 (some r) (some ⟨x, 0, none⟩) (some ⟨t, 0, none⟩) (some ⟨μ.p, 0, none⟩) half c3 (i : Nat) h) QM := by
  intro m
  induction m with
  | zero =>
    intro i h l want hk hi hs hl hWR w
    refine Ok.le ?_ law20_TableMap_L4_le
    have fin : Ok (law20_TableMap_j26 a1 (i : Nat) l2 h (some r) (k : Nat) (some ⟨x, 0, none⟩) (some ⟨t, 0, none⟩) (some ⟨μ.p, 0, none⟩) half c3 false) QM := by
      refine Ok.le ?_ law20_TableMap_j26_le
      rw [cond_f]
      exact nx h l want i hi hs hl hWR w
    by_cases c : (i : Int) < l2
    · rw [dec_t c, cond_t, dec_f (by omega), cond_f]; exact fin
    · rw [dec_f c, cond_f]; exact fin
  | succ m ih =>
    intro i h l want hk hi hs hl hWR w
    refine Ok.le ?_ law20_TableMap_L4_le
    have fin : ∀ b, (b = true → i < l2) → Ok (law20_TableMap_j26 a1 (i : Nat) l2 h (some r) (k : Nat) (some ⟨x, 0, none⟩) (some ⟨t, 0, none⟩) (some ⟨μ.p, 0, none⟩) half c3 b) QM := by
      intro b hb
      refine Ok.le ?_ law20_TableMap_j26_le
      cases b with
      | false => rw [cond_f]; exact nx h l want i hi hs hl hWR w
      | true =>
        rw [cond_t]
        have hil := hb rfl
        refine Ok.le ?_ law20_TableMap_j25_le
        obtain ⟨o, ho⟩ : ∃ o, ops[i]? = some o := ⟨_, List.getElem?_eq_getElem (by omega)⟩
        have hro : Rd h a1 (ops.flatMap encOp) := (w.mv 3 rfl).rds (p := (a1, ops.flatMap encOp)) (by simp)
        obtain ⟨ad, ea, e1, e2, e3⟩ := rdO hro ho
        obtain ⟨h2, k1, w2, k2⟩ := w.var [.int .i64 0, .string (ByteArray.mk #[]), .string (ByteArray.mk #[])] [.int .i64 o.kind, .string o.k, .string o.v] 3 rfl
        have g2 := w2.get
        have hn := (Mt.m_at (w2.mv 3 rfl)).nk
        obtain ⟨es, m1, m2, m3⟩ := wLookM (w2.mv 3 rfl) o.k
        have hthere := hWR.aok hs o.k
        rw [hthere] at m3
        have step : ∀ (h' : AH) (l want : List Pr), Srt l → l.length ≤ 50 → WR want l → H h' (aX x t 5 60 :: aTab t μ 5 60 (Tb l 60) :: aW r want :: aOps a1 ops :: F) → Ok (law20_TableMap_j18 l2 (k : Nat) a1 (some r) (some ⟨x, 0, none⟩) (some ⟨t, 0, none⟩) (some ⟨μ.p, 0, none⟩) half c3 (i : Nat) h') QM := fun h' l want hs hl hWR w => by
          refine Ok.le ?_ law20_TableMap_j18_le
          rw [show IntKind.wrap .i64 (((i : Nat) : Int) + 1) = ((i + 1 : Nat) : Int) by rw [wrap64 (by omega) (by omega)]; omega]
          exact ih (i + 1) h' l want (by omega) (by omega) hs hl hWR w
        simp only [ea, Option.bind_some, inB_t (show (0 : Int) ≤ ((i : Nat) : Int) by omega) (show ((i : Nat) : Int) < ((l2 : Nat) : Int) by omega), cond_t, Int.toNat_natCast, e1, e2, e3, k1, AH.ldI_of g2 (o := 0 + 0) rfl, AH.ldStr_of g2 (o := 0 + 1) rfl, m1, m3, asStr_s]
        rw [← ea]
        have wT : H h2 (aX x t 5 60 :: aTab t μ 5 60 (Tb l 60) :: Cs h.n [.int .i64 o.kind, .string o.k, .string o.v] 3 :: aW r want :: aOps a1 ops :: F) := w2.pm [1, 2, 0, 3, 4]
        by_cases c4 : o.kind < 4
        · rw [dec_t c4, cond_t]
          have put : (hit l o.k = false → l.length < 50) → Ok (law20_TableMap_j21 (some ⟨h.n, 0, none⟩) h2 (some ⟨x, 0, none⟩) (some ⟨t, 0, none⟩) (k : Nat) (i : Nat) (some r) (some ⟨μ.p, 0, none⟩) half a1 l2 c3) QM := fun hroom => by
            refine Ok.le ?_ law20_TableMap_j21_le
            simp only [Option.bind_some, AH.ldStr_of g2 (o := 0 + 1) rfl, AH.ldStr_of g2 (o := 0 + 2) rfl]
            refine Ok.bind (putP_ok hs (by omega) (by decide) o.k o.v wT) ?_
            rintro _ h3 ⟨rfl, w3⟩
            simp only [asI_i64, Option.bind_some, put_ok0 (show l.length < 60 by omega), decide_true, Bool.not_true, cond_f]
            refine Ok.le ?_ law20_TableMap_j19_le
            have g3 := w3.g 2 rfl
            obtain ⟨h4, p1, w4, p2⟩ := Mt.m_put (w3.mv 3 rfl) o.k o.v
            simp only [Option.bind_some, AH.ldStr_of g3 (o := 0 + 1) rfl, AH.ldStr_of g3 (o := 0 + 2) rfl, show aput .string (.map (some r)) (.string o.k) (.string o.v) h3 = some h4 from p1]
            refine step h4 _ _ (put_srt hs 60 o.k o.v) ?_ (hWR.put hs (by omega) o.k o.v) ((w4.pm [1, 2, 0, 3, 4]).rm 3 rfl)
            rw [put_len' hs (by omega)]
            split
            · exact hl
            · rename_i hh
              have := hroom (by simpa using hh)
              omega
          cases hh : hit l o.k with
          | true =>
            simp only [Bool.not_true, cond_f]
            refine Ok.le ?_ law20_TableMap_j22_le
            rw [cond_f]
            exact put fun e => by rw [hh] at e; cases e
          | false =>
            simp only [Bool.not_false, cond_t, m2, hWR.len, Option.bind_some, m1]
            refine Ok.le ?_ law20_TableMap_j22_le
            by_cases c50 : l.length = 50
            · rw [dec_t (by omega), cond_t]
              exact step h2 l want hs hl hWR w2.drop
            · rw [dec_f (by omega), cond_f]
              exact put fun _ => by omega
        · rw [dec_f c4, cond_f]
          refine Ok.bind (remP_ok hs (by omega) (by decide) o.k wT) ?_
          rintro _ h3 ⟨rfl, w3⟩
          simp only [asTu_t, Option.bind_some, hdO_c, asB_b, asI_i64, List.isEmpty_nil, cond_t, beq_self_eq_true, Bool.not_true, cond_f, decide_true]
          have g3 := w3.g 2 rfl
          obtain ⟨h4, p1, w4⟩ := Mt.m_del (w3.mv 3 rfl) o.k
          simp only [AH.ldStr_of g3 (o := 0 + 1) rfl, Option.bind_some, p1]
          exact step h4 _ _ (rem_srt hs o.k) (rem_len hl o.k) (hWR.rem hs hn o.k) ((w4.pm [1, 2, 0, 3, 4]).rm 3 rfl)
    by_cases c : (i : Int) < l2
    · rw [dec_t c, cond_t, dec_t (by omega), cond_t]
      by_cases c1 : (k : Int) = 1
      · rw [dec_t c1, cond_t]; exact fin true fun _ => by omega
      · rw [dec_f c1, cond_f]; exact fin _ fun _ => by omega
    · rw [dec_f c, cond_f]; exact fin false fun e => by cases e
/-- the rounds -/
theorem rounds {half : Int} (hl2 : l2 = ops.length) : ∀ (m k i : Nat) (h : AH) (μ : MD) (l want : List Pr), 2 - k = m → k ≤ 2 → i ≤ 80 → μ.clk ≤ k → RS μ l → Srt l → l.length ≤ 50 → WR want l →
    H h (aMem μ.p μ.q μ.cs μ.clk :: aW r want :: aOps a1 ops :: []) → Ok (law20_TableMap_L1 (some ⟨μ.p, 0, none⟩) half a1 l2 c3 (some r) (i : Nat) (k : Nat) h) QM := by
  intro m
  induction m with
  | zero =>
    intro k i h μ l want hk hk2 hi hclk hRS hs hl hWR w
    refine Ok.le ?_ law20_TableMap_L1_le
    refine Ok.le ?_ law20_TableMap_j32_le
    rw [dec_f (by omega), cond_f]
    refine Ok.le ?_ law20_TableMap_j2_le
    exact aw_okM h
  | succ m ih =>
    intro k i h μ l want hk hk2 hi hclk hRS hs hl hWR w
    refine Ok.le ?_ law20_TableMap_L1_le
    refine Ok.le ?_ law20_TableMap_j32_le
    rw [dec_t (by omega), cond_t]
    refine Ok.le ?_ law20_TableMap_j31_le
    refine Ok.bind (begin_ok w) ?_
    rintro _ h2 ⟨t, s, rfl, w2⟩
    simp only [asTu_t, Option.bind_some, hdO_c, asP_p, asI_i64, List.isEmpty_nil, cond_t, decide_true, Bool.not_true, cond_f]
    refine Ok.le ?_ law20_TableMap_j29_le
    have w2' : H h2 (TP t μ s ⟨[], []⟩ ++ (aW r want :: aOps a1 ops :: [])) := w2
    refine Ok.bind (of60 hRS.len w2') ?_
    rintro _ h3 ⟨x, rfl, w3⟩
    simp only [asTu_t, Option.bind_some, hdO_c, asP_p, asI_i64, List.isEmpty_nil, cond_t, decide_true, Bool.not_true, cond_f]
    refine Ok.le ?_ law20_TableMap_j27_le
    have hI : TI 5 60 μ ⟨[], []⟩ (Tb l 60) := by
      refine ⟨Tb_len (l := l) (n := 60) (by omega), ?_, by simp, fun i c hc => rfl, by simp, by rw [hRS.len]; decide, by rw [hRS.len]; decide, by decide, hRS.cl⟩
      intro i x c hx hc
      exact hRS.at_ i x c hx hc
    have w4 : H h3 (TP t μ s ⟨[], []⟩ ++ (aX x t 5 60 :: aW r want :: aOps a1 ops :: [])) := w3.pm [1, 2, 3, 0]
    have w5 := (tab_cl w4 hI).u1
    refine op_loop (ops := ops) hl2 ?_ (80 - i) i h3 l want rfl hi hs hl hWR w5
    intro h' l' want' i' hi' hs' hl' hWR' w'
    refine list_go hs' hl' hWR' (fun h'' w'' => ?_) w'
    refine round_end (l := l') hs' hl' (by omega) hRS.len (w''.u1) ?_
    intro h6 cs' clk' hRS' hck w6
    refine Ok.le ?_ law20_TableMap_j3_le
    rw [show IntKind.wrap .i64 (((k : Nat) : Int) + 1) = ((k + 1 : Nat) : Int) by rw [wrap64 (by omega) (by omega)]; omega]
    exact ih (k + 1) i' h6 ⟨μ.p, μ.q, cs', clk'⟩ l' want' (by omega) (by omega) hi' (by show clk' ≤ _; omega) hRS' hs' hl' hWR' (w6.rm 1 rfl)
end
theorem Map_main (h : AH) {a : Option Addr} {n c : Nat} {ops : List Op3} (s0 : SlIn h encOp (fun _ => True) a n c ops) (half : Int) (w1 : (Lit.int .i64 half).wf = true) : Ok (C k_law20_TableMap [.slice a n c, .int .i64 half] h) QM := by
  obtain rfl := s0.len
  have hr := s0.rd
  refine Ok.le ?_ law20_TableMap_le
  have w0 : H h [aOps a ops] := H.args fun p hp => by
    simp only [List.mem_singleton] at hp
    subst hp
    exact hr
  obtain ⟨p, q, h2, e, w2⟩ := new_ok w0 (n := 70) (by decide) (by decide)
  have e' : C k_cell_New_table_Entry [.int .i64 70] h = some (.tuple #[at0 p, .int .i64 0], h2) := e
  simp only [F_law20_TableMap, e', Option.bind_some, asTu_t, hdO_c, asP_p, asI_i64, List.isEmpty_nil, cond_t, decide_true, Bool.not_true, cond_f]
  refine Ok.le ?_ law20_TableMap_j33_le
  have w3 : H _ (aW h2.n [] :: aMem p q (List.replicate 70 c0) 0 :: [aOps a ops]) := Mt.m_new (ev := vS) w2
  refine rounds (ops := ops) (μ := ⟨p, q, List.replicate 70 c0, 0⟩) (l := []) (want := []) rfl 2 0 0 _ rfl (by decide) (by decide) (Int.le_refl _) ⟨by simp, ?_, ?_⟩ .nil (by decide) ⟨rfl, fun k v => ?_⟩ w3.u1
  · intro i x c hx hc
    have h1 : c = c0 := by
      have hc' : (List.replicate 70 c0)[5 + i]? = some c := hc
      rw [List.getElem?_replicate] at hc'
      split at hc'
      · exact (Option.some.inj hc').symm
      · cases hc'
    have h2 : x = E0 := by
      have : Tb [] 60 = List.replicate 60 E0 := rfl
      rw [this, List.getElem?_replicate] at hx
      split at hx
      · exact (Option.some.inj hx).symm
      · cases hx
    rw [h1, h2]
  · intro c hc
    have : c = c0 := List.eq_of_mem_replicate hc
    subst this
    exact ⟨rfl, Int.le_refl _, Int.le_refl _⟩
  · simp [Mt.alook]
end Tab
end Go.Lg.Tryz
