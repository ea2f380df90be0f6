/- Who waits: the maps as parts of memory; can a waiter go on? -/
import Derived.Test.YtodbjmagcelfjaaGreatFwait
import Derived.Test.YtodbjmagcelfjaaGreatPtl2M
import Derived.Test.YtodbjmagcelfjaaGreatPkitPick
import Derived.Test.YtodbjmagcelfjaaGreatEv42
import Derived.Test.YtodbjmagcelfjaaGreatFslices
import Derived.Test.YtodbjmagcelfjaaGreatFmaps
set_option linter.unusedVariables false
set_option linter.unusedSimpArgs false
namespace Go.Lg.Tryz
set_option linter.unusedVariables false
set_option linter.unusedSimpArgs false
open Go Go.Proofs
def aMI (r : Nat) (l : List (Int × Int)) : Asr := Up (fun h => MI h r l) (fun b => b = r)
def aMM (r : Nat) (l : List (Int × Int)) : Asr := Up (fun h => Mm.MI h r l) (fun b => b = r)
section
variable {h h' : AH} {r : Nat} {l : List (Int × Int)} {F : List Asr}
theorem mi_at (hh : H h (aMI r l :: F)) : MI h r l := hh.of_up
theorem mm_at (hh : H h (aMM r l :: F)) : Mm.MI h r l := hh.of_up
theorem MI.live (hm : MI h r l) : ∀ b, b = r → (h.get b).isSome = true ∧ b < h.n := fun b e => by
  subst e; obtain ⟨es, clk, h1, _⟩ := hm.ex; exact ⟨by rw [h1]; rfl, hm.lt⟩
theorem MI.same2 (hm : MI h r l) (hg : ∀ b, b = r → h'.get b = h.get b ∧ b < h'.n) : MI h' r l := by
  obtain ⟨es, clk, h1, h2⟩ := hm.ex
  exact ⟨⟨es, clk, by rw [(hg r rfl).1]; exact h1, h2⟩, hm.nk, (hg r rfl).2⟩
theorem MM.live (hm : Mm.MI h r l) : ∀ b, b = r → (h.get b).isSome = true ∧ b < h.n := fun b e => by
  subst e; obtain ⟨es, clk, h1, _⟩ := hm.ex; exact ⟨by rw [h1]; rfl, hm.lt⟩
theorem MM.same2 (hm : Mm.MI h r l) (hg : ∀ b, b = r → h'.get b = h.get b ∧ b < h'.n) : Mm.MI h' r l := by
  obtain ⟨es, clk, h1, h2⟩ := hm.ex
  exact ⟨⟨es, clk, by rw [(hg r rfl).1]; exact h1, h2⟩, hm.nk, (hg r rfl).2⟩
theorem mi_new (hh : H h F) : H (h.push (.map [] 0)) (aMI h.n [] :: F) :=
  hh.fresh (Nat.le_succ _) (fun b hb => AH.get_push_ne _ (by omega)) (fun b e => by omega) (MI.live (MI.new h)) fun h'' hg => MI.same2 (MI.new h) hg
theorem mm_new (hh : H h F) : H (h.push (.map [] 0)) (aMM h.n [] :: F) :=
  hh.fresh (Nat.le_succ _) (fun b hb => AH.get_push_ne _ (by omega)) (fun b e => by omega) (MM.live (Mm.MI.new h)) fun h'' hg => MM.same2 (Mm.MI.new h) hg
theorem mi_put (hh : H h (aMI r l :: F)) (i v : Int) : ∃ h', aput (.int .i64) (.map (some r)) (.int .i64 i) (.int .i64 v) h = some h' ∧ H h' (aMI r (aputL l i v) :: F) := by
  obtain ⟨h', e1, m1, n1, g1⟩ := (mi_at hh).put i v
  exact ⟨h', e1, hh.run (by omega) (fun b hb hn => g1 b hn) (fun b hb => .inl hb) (MI.live m1) fun h'' hg => MI.same2 m1 hg⟩
theorem mm_put (hh : H h (aMM r l :: F)) (i v : Int) : ∃ h', aput (.int .i64) (.map (some r)) (.int .i64 i) (.map (some v.toNat)) h = some h' ∧ H h' (aMM r (aputL l i v) :: F) := by
  obtain ⟨h', e1, m1, n1, g1⟩ := (mm_at hh).put i v
  exact ⟨h', e1, hh.run (by omega) (fun b hb hn => g1 b hn) (fun b hb => .inl hb) (MM.live m1) fun h'' hg => MM.same2 m1 hg⟩
theorem mm_del (hh : H h (aMM r l :: F)) (i : Int) : ∃ h', adel (.int .i64) (.map (some r)) (.int .i64 i) h = some h' ∧ H h' (aMM r (adelL l i) :: F) := by
  obtain ⟨h', e1, m1, n1, g1⟩ := (mm_at hh).del i
  exact ⟨h', e1, hh.run (by omega) (fun b hb hn => g1 b hn) (fun b hb => .inl hb) (MM.live m1) fun h'' hg => MM.same2 m1 hg⟩
theorem mm_map (hh : H h (aMM r l :: F)) : ∃ es, mapOf h (.map (some r)) = some es ∧ es.length = l.length ∧ es.map prI = l.map Mm.encPr := (mm_at hh).map
theorem Hp.cut {m : Hp} (hi : Hp.In m h) : Hp.In m (h.cut h.n) := fun b x hx => by
  obtain ⟨h1, h2⟩ := hi b x hx
  exact ⟨by rw [AH.cut_get, if_pos h2]; exact h1, Nat.lt_of_lt_of_le h2 (AH.cut_n _ _)⟩
theorem H.cutE (hh : H h F) : H (h.cut h.n) F := by
  obtain ⟨m, h1, h2⟩ := hh
  exact ⟨m, Hp.cut h1, h2⟩
end
structure WT where
  id : Int
  rc : Nat
  cells : List (Int × Int)
/-- who waits, as pairs of an id and its cells' versions -/
def aW (w p : Nat) (W : List (Int × List (Int × Int))) : Asr := fun m => ∃ r : Nat, ∃ wl : List WT, wl.map (fun x => (x.id, x.cells)) = W ∧
  Lay [Cs w [.pointer (some ⟨p, 0, none⟩), .map (some r)] 2, aMM r (wl.map fun x => (x.id, (x.rc : Int))), Lay (wl.map fun x => aMI x.rc x.cells)] m
section
variable {h h' : AH} {w p q : Nat} {W : List (Int × List (Int × Int))} {cs : List Cel} {clk : Int} {F : List Asr}
theorem aW_at (hh : H h (aW w p W :: F)) : ∃ (r : Nat) (wl : List WT), wl.map (fun x => (x.id, x.cells)) = W ∧ H h (Cs w [.pointer (some ⟨p, 0, none⟩), .map (some r)] 2 :: aMM r (wl.map fun x => (x.id, (x.rc : Int))) :: Lay (wl.map fun x => aMI x.rc x.cells) :: F) := by
  obtain ⟨r, hh⟩ := hh.ex
  obtain ⟨wl, hh⟩ := hh.ex
  obtain ⟨e, hh⟩ := hh.pu
  exact ⟨r, wl, e, hh.opn_⟩
theorem aW_mk {r : Nat} {wl : List WT} (e : wl.map (fun x => (x.id, x.cells)) = W) (hh : H h (Cs w [.pointer (some ⟨p, 0, none⟩), .map (some r)] 2 :: aMM r (wl.map fun x => (x.id, (x.rc : Int))) :: Lay (wl.map fun x => aMI x.rc x.cells) :: F)) : H h (aW w p W :: F) :=
  (H.cls (L := [Cs w [.pointer (some ⟨p, 0, none⟩), .map (some r)] 2, aMM r (wl.map fun x => (x.id, (x.rc : Int))), Lay (wl.map fun x => aMI x.rc x.cells)]) hh).imp fun m hm => ⟨r, wl, e, hm⟩
/-- the cells of a waiter -/
def find (id : Int) : List (Int × List (Int × Int)) → Option (List (Int × Int))
  | [] => none
  | x :: l => if x.1 = id then some x.2 else find id l
def badC (cs : List Cel) (c : Int × Int) : Bool := decide ((loadM cs c.1).1.ver ≠ c.2)
def goesM (W : List (Int × List (Int × Int))) (cs : List Cel) (id : Int) : Bool := match find id W with
  | none => false
  | some l => l.any (badC cs)
def left (es : List MapEntry) (seen : List Nat) : List MapEntry := es.filter fun e => !seen.contains e.born
def badE (cs : List Cel) (e : MapEntry) : Bool := match e.key, e.val with
  | .int .i64 i, .int .i64 v => badC cs (i, v)
  | _, _ => false
theorem mem_left {es : List MapEntry} {seen : List Nat} {e : MapEntry} : e ∈ left es seen ↔ e ∈ es ∧ e.born ∉ seen := by
  unfold left
  rw [List.mem_filter]
  simp
theorem left_any {es : List MapEntry} {seen : List Nat} {e : MapEntry} (hn : (es.map (·.born)).Nodup) (he : e ∈ left es seen) (f : MapEntry → Bool) (hf : f e = false) : (left es (seen ++ [e.born])).any f = (left es seen).any f := by
  have hinj : ∀ x ∈ es, ∀ y ∈ es, x.born = y.born → x = y := by
    intro x hx y hy exy
    obtain ⟨i, hi, rfl⟩ := List.mem_iff_getElem.mp hx
    obtain ⟨j, hj, rfl⟩ := List.mem_iff_getElem.mp hy
    have : i = j := by
      have h1 : (es.map (·.born))[i]? = (es.map (·.born))[j]? := by
        rw [List.getElem?_map, List.getElem?_map, List.getElem?_eq_getElem hi, List.getElem?_eq_getElem hj]
        simp [exy]
      exact (List.getElem?_inj (by rw [List.length_map]; exact hi) hn).mp h1
    subst this; rfl
  rw [Bool.eq_iff_iff, List.any_eq_true, List.any_eq_true]
  constructor
  · rintro ⟨x, hx, h1⟩
    rw [mem_left] at hx
    exact ⟨x, mem_left.mpr ⟨hx.1, fun h => hx.2 (List.mem_append_left _ h)⟩, h1⟩
  · rintro ⟨x, hx, h1⟩
    rw [mem_left] at hx
    refine ⟨x, mem_left.mpr ⟨hx.1, fun h => ?_⟩, h1⟩
    rcases List.mem_append.mp h with h | h
    · exact hx.2 h
    · have : x = e := hinj x hx.1 e (mem_left.mp he).1 (by simpa using h)
      rw [this, hf] at h1; cases h1
theorem left_len {es : List MapEntry} {seen : List Nat} {e : MapEntry} (he : e ∈ left es seen) : (left es (seen ++ [e.born])).length < (left es seen).length := by
  have : left es (seen ++ [e.born]) = (left es seen).filter fun x => !(x.born == e.born) := by
    unfold left
    rw [List.filter_filter]
    apply List.filter_congr
    intro x _
    rw [List.contains_append]
    cases seen.contains x.born <;> first | (simp; done) | (simp; rfl)
  rw [this, List.length_filter_lt_length_iff_exists]
  exact ⟨e, he, by simp⟩
theorem find_born : ∀ {es : List MapEntry} {e : MapEntry}, (es.map (·.born)).Nodup → e ∈ es → es.find? (fun x => x.born == e.born) = some e
  | x :: es, e, hn, he => by
    rw [List.map_cons, List.nodup_cons] at hn
    rw [List.find?_cons]
    rcases List.mem_cons.mp he with rfl | he
    · simp
    · have : x.born ≠ e.born := fun h => hn.1 (by rw [h]; exact List.mem_map_of_mem he)
      rw [beq_eq_false_iff_ne.mpr this]
      exact find_born hn.2 he
theorem keep_goes : keepT k_wait_Watch_int_goes 1000000 = some [0] := by kernel_rfl
theorem goes_loop {h0 : AH} {rc : Nat} {es : List MapEntry} {ck : Nat} {l : List (Int × Int)} {m1 : Option Nat} (hw : h0.get w = some (.cells [.pointer (some ⟨p, 0, none⟩), .map m1] false false 2)) (hwl : w < h0.n)
    (hM : ∀ h', Fr [] h0 h' → MemR h' p q cs clk) (h1 : h0.get rc = some (.map es ck)) (hrc : rc < h0.n) (h2 : es.map prI = l.map encPr) (h3 : ∀ e ∈ es, e.born < ck) (h4 : (es.map (·.born)).Nodup) :
    ∀ (n : Nat) (seen : List Nat) (h : AH), (left es seen).length ≤ n → h.n = h0.n + 1 → (∀ b, b < h0.n → h.get b = h0.get b) → h.get h0.n = some (.iter (some rc) ck seen ck) →
      wait_Watch_int_goes_L1 (some ⟨w, 0, none⟩) h0.n (some ⟨h0.n, 0, none⟩) h = some (.bool ((left es seen).any (badE cs)), h0.cut h0.n) := by
  have hend : ∀ h : AH, h.n ≤ h0.n + 256 → (∀ b, b < h0.n → h.get b = h0.get b) → endH (endOf (keepT k_wait_Watch_int_goes 1000000) h0.n) h = h0.cut h0.n := by
    intro h hn hg
    rw [keep_goes]
    show h.cut h0.n = _
    exact AH.cut_congr hn (Nat.le_add_right _ _) hg
  intro n
  induction n with
  | zero =>
    intro seen h hl hn hg hit
    have hl0 : left es seen = [] := List.eq_nil_of_length_eq_zero (by omega)
    refine wait_Watch_int_goes_L1_le _ ?_
    have hes : h.get rc = some (.map es ck) := by rw [hg rc hrc]; exact h1
    have c1 : (!seen.isEmpty && !es.isEmpty && es.all (fun e => Nat.ble ck e.born)) = false := by
      cases es with
      | nil => simp
      | cons e es =>
        have hb := h3 e (by simp)
        have : Nat.ble ck e.born = false := by
          cases hq : Nat.ble ck e.born with
          | false => rfl
          | true => have := Nat.le_of_ble_eq_true hq; omega
        simp [this]
    have c2 : (es.filter fun e => !seen.contains e.born) = [] := hl0
    have hnx : nxC (.pointer (some ⟨h0.n, 0, none⟩)) h = some (h.set h0.n none, []) := by
      unfold nxC
      simp only [hit, hes, c1, cond_f, c2, List.all_nil, cond_t, List.isEmpty_nil]
    rw [hnx]
    unfold nxK
    simp only
    refine wait_Watch_int_goes_j3_le _ ?_
    rw [cond_f]
    refine wait_Watch_int_goes_j1_le _ ?_
    rw [hl0, hend _ (by rw [AH.n_set]; omega) (fun b hb => by rw [AH.get_set_ne _ (by omega)]; exact hg b hb)]
    rfl
  | succ n ih =>
    intro seen h hl hn hg hit
    have hes : h.get rc = some (.map es ck) := by rw [hg rc hrc]; exact h1
    have c1 : (!seen.isEmpty && !es.isEmpty && es.all (fun e => Nat.ble ck e.born)) = false := by
      cases es with
      | nil => simp
      | cons e es =>
        have hb := h3 e (by simp)
        have : Nat.ble ck e.born = false := by
          cases hq : Nat.ble ck e.born with
          | false => rfl
          | true => have := Nat.le_of_ble_eq_true hq; omega
        simp [this]
    have c3 : (left es seen).all (fun e => Nat.blt e.born ck) = true := by
      rw [List.all_eq_true]
      intro e he
      exact Nat.ble_eq_true_of_le (h3 e (mem_left.mp he).1)
    refine wait_Watch_int_goes_L1_le _ ?_
    have hnx : nxC (.pointer (some ⟨h0.n, 0, none⟩)) h = cond (left es seen).isEmpty (some (h.set h0.n none, [])) (some (h, (left es seen).map fun e => (e.key, e.val, h.set h0.n (some (.iter (some rc) ck (seen ++ [e.born]) ck))))) := by
      unfold nxC
      unfold left at c3 ⊢
      simp only [hit, hes, c1, cond_f, c3, cond_t]
    rw [hnx]
    -- one of those that are left
    have step : ∀ e ∈ left es seen, wait_Watch_int_goes_j3 (some ⟨h0.n, 0, none⟩) (some ⟨w, 0, none⟩) h0.n true (h.set h0.n (some (.iter (some rc) ck (seen ++ [e.born]) ck))) = some (.bool ((left es seen).any (badE cs)), h0.cut h0.n) := by
      intro e he
      have hee := (mem_left.mp he).1
      have hg2 : ∀ b, b < h0.n → (h.set h0.n (some (.iter (some rc) ck (seen ++ [e.born]) ck))).get b = h0.get b := fun b hb => by rw [AH.get_set_ne _ (by omega)]; exact hg b hb
      have fr2 : Fr [] h0 (h.set h0.n (some (.iter (some rc) ck (seen ++ [e.born]) ck))) := ⟨by rw [AH.n_set]; omega, fun b hb _ => hg2 b hb⟩
      have hM2 := hM _ fr2
      have hit2 : (h.set h0.n (some (.iter (some rc) ck (seen ++ [e.born]) ck))).get h0.n = some (.iter (some rc) ck (seen ++ [e.born]) ck) := AH.get_set_eq _ _ _
      have hn2 : (h.set h0.n (some (.iter (some rc) ck (seen ++ [e.born]) ck))).n = h0.n + 1 := hn
      generalize h.set h0.n (some (.iter (some rc) ck (seen ++ [e.born]) ck)) = hh at hg2 fr2 hM2 hit2 hn2
      have hes2 : hh.get rc = some (.map es ck) := by rw [hg2 rc hrc]; exact h1
      have hent : entC (.pointer (some ⟨h0.n, 0, none⟩)) hh = some (e.key, e.val) := by
        unfold entC
        simp only [hit2, List.getLast?_append, List.getLast?_singleton, Option.some_or, hes2, Nat.beq_refl, cond_t, find_born h4 hee, Option.bind_some]
      obtain ⟨c, hc1, hc2⟩ : ∃ c : Int × Int, e.key = .int .i64 c.1 ∧ e.val = .int .i64 c.2 := by
        have hm : prI e ∈ es.map prI := List.mem_map_of_mem hee
        rw [h2] at hm
        obtain ⟨c, _, hc⟩ := List.mem_map.mp hm
        unfold encPr prI at hc
        exact ⟨c, (congrArg Prod.fst hc).symm, (congrArg Prod.snd hc).symm⟩
      refine wait_Watch_int_goes_j3_le _ ?_
      rw [cond_t]
      refine wait_Watch_int_goes_j2_le _ ?_
      have hwp : hh.ldP w (0 + 0) = some (some ⟨p, 0, none⟩) := AH.ldP_of (by rw [hg2 w hwl]; exact hw) rfl
      have hld := load_eq hM2 c.1
      have hld : C k_cell_Memory_int_Load [.pointer (some ⟨p, 0, none⟩), .int .i64 c.1] hh = _ := hld
      simp only [hent, Option.bind_some, hc1, hc2, asI_i64, hwp, hld, asTu_t, hdO_c, List.isEmpty_nil, cond_t]
      have hbe : badE cs e = decide ((loadM cs c.1).1.ver ≠ c.2) := by
        unfold badE
        rw [hc1, hc2]; rfl
      by_cases hv : (loadM cs c.1).1.ver = c.2
      · rw [dec_t hv, Bool.not_true, cond_f]
        rw [decide_eq_false (by simpa using hv)] at hbe
        rw [← left_any h4 he _ hbe]
        refine ih (seen ++ [e.born]) hh ?_ hn2 hg2 hit2
        have := left_len he
        omega
      · rw [dec_f hv, Bool.not_false, cond_t, hend hh (by omega) hg2]
        rw [decide_eq_true hv] at hbe
        have : (left es seen).any (badE cs) = true := List.any_eq_true.mpr ⟨e, he, hbe⟩
        rw [this]
    cases hls : left es seen with
    | nil =>
      simp only [List.isEmpty_nil, cond_t]
      unfold nxK
      simp only
      refine wait_Watch_int_goes_j3_le _ ?_
      rw [cond_f]
      refine wait_Watch_int_goes_j1_le _ ?_
      rw [hend _ (by rw [AH.n_set]; omega) (fun b hb => by rw [AH.get_set_ne _ (by omega)]; exact hg b hb)]
      rfl
    | cons e rest =>
      rw [hls] at step
      simp only [List.isEmpty_cons, cond_f, List.map_cons]
      unfold nxK
      simp only
      rw [allR_same]
      · exact step e (by simp)
      · intro x hx
        obtain ⟨y, hy, rfl⟩ := List.mem_map.mp hx
        obtain ⟨e', he', rfl⟩ := List.mem_map.mp hy
        rw [step e' (List.mem_cons_of_mem _ he'), step e (by simp)]
theorem left_nil (es : List MapEntry) : left es [] = es := by
  unfold left
  exact List.filter_eq_self.mpr fun e _ => by simp
theorem any_bad : ∀ {es : List MapEntry} {l : List (Int × Int)}, es.map prI = l.map encPr → es.any (badE cs) = l.any (badC cs)
  | [], [], _ => rfl
  | [], _ :: _, h => by simp at h
  | _ :: _, [], h => by simp at h
  | e :: es, c :: l, h => by
    simp only [List.map_cons, List.cons.injEq, prI, encPr, Prod.mk.injEq] at h
    rw [List.any_cons, List.any_cons, any_bad h.2]
    unfold badE
    rw [h.1.1, h.1.2]
theorem find_alook (id : Int) : ∀ wl : List WT, (alook (wl.map fun x => (x.id, (x.rc : Int))) id = none ∧ find id (wl.map fun x => (x.id, x.cells)) = none) ∨
    ∃ (j : Nat) (x : WT), wl[j]? = some x ∧ x.id = id ∧ alook (wl.map fun x => (x.id, (x.rc : Int))) id = some (x.rc : Int) ∧ find id (wl.map fun x => (x.id, x.cells)) = some x.cells
  | [] => .inl ⟨rfl, rfl⟩
  | x :: wl => by
    by_cases hx : x.id = id
    · exact .inr ⟨0, x, rfl, hx, by simp [alook, hx], by simp [find, hx]⟩
    · rcases find_alook id wl with ⟨h1, h2⟩ | ⟨j, y, h1, h2, h3, h4⟩
      · exact .inl ⟨by simp only [List.map_cons, alook, if_neg hx]; exact h1, by simp only [List.map_cons, find, if_neg hx]; exact h2⟩
      · exact .inr ⟨j + 1, y, by simpa using h1, h2, by simp only [List.map_cons, alook, if_neg hx]; exact h3, by simp only [List.map_cons, find, if_neg hx]; exact h4⟩
theorem goes_ok (hh : H h (aW w p W :: aMem p q cs clk :: F)) (id : Int) : C k_wait_Watch_int_goes [.pointer (some ⟨w, 0, none⟩), .int .i64 id] h = some (.bool (goesM W cs id), h.cut h.n) := by
  have hM : ∀ h', Fr [] h h' → MemR h' p q cs clk := fun h' hf => mem_at ((hh.mv 1 rfl).fr hf)
  obtain ⟨r, wl, rfl, kk⟩ := aW_at hh
  obtain ⟨es, e1, e2, e3⟩ := mm_map (kk.mv 1 rfl)
  have hw := kk.g 0 rfl
  have hwl := kk.lt
  refine wait_Watch_int_goes_le _ ?_
  unfold F_wait_Watch_int_goes
  have hld : h.ldM w (0 + 1) = some (some r) := AH.ldM_of hw rfl
  simp only [Option.bind_some, hld, e1]
  rw [Mm.look_eq ?hz e3 id]
  case hz => kernel_rfl
  have hend : ∀ h' : AH, h'.n ≤ h.n + 256 → (∀ b, b < h.n → h'.get b = h.get b) → endH (endOf (keepT k_wait_Watch_int_goes 1000000) h.n) h' = h.cut h.n := by
    intro h' hn hg
    rw [keep_goes]
    show h'.cut h.n = _
    exact AH.cut_congr hn (Nat.le_add_right _ _) hg
  rcases find_alook id wl with ⟨f1, f2⟩ | ⟨j, x, f0, f1, f2, f3⟩
  · rw [f1]
    unfold goesM
    rw [f2]
    have hr : rngE none h = some (h.push (.iter none 0 [] 0)) := rfl
    simp only [Mm.valM, Option.bind_some, asM_m, hr]
    refine wait_Watch_int_goes_L1_le _ ?_
    have hnx : nxC (.pointer (some ⟨h.n, 0, none⟩)) (h.push (.iter none 0 [] 0)) = some ((h.push (.iter none 0 [] 0)).set h.n none, []) := by
      unfold nxC
      simp only [AH.get_push_eq]
    rw [hnx]
    unfold nxK
    simp only
    refine wait_Watch_int_goes_j3_le _ ?_
    rw [cond_f]
    refine wait_Watch_int_goes_j1_le _ ?_
    rw [hend _ (by rw [AH.n_set, AH.n_push]; omega) (fun b hb => by rw [AH.get_set_ne _ (by omega), AH.get_push_ne _ (by omega)])]
  · rw [f2]
    unfold goesM
    rw [f3]
    have w2 := H.take_i (f := fun x : WT => aMI x.rc x.cells) f0 (kk.mv 2 rfl)
    obtain ⟨es2, ck, g1, g2, g3, g4⟩ := (mi_at w2).ex
    have hrc := (mi_at w2).lt
    have hr : rngE (some x.rc) h = some (h.push (.iter (some x.rc) ck [] ck)) := by
      unfold rngE
      simp only [g1]
    have htn : ((x.rc : Int)).toNat = x.rc := Int.toNat_natCast _
    simp only [Mm.valM, Mm.encV, htn, Option.bind_some, asM_m, hr]
    have := goes_loop (w := w) (p := p) (q := q) (cs := cs) (clk := clk) (m1 := some r) hw hwl hM g1 hrc g2 g3 g4 es2.length [] (h.push (.iter (some x.rc) ck [] ck)) (by rw [left_nil]; exact Nat.le_refl _) (by rw [AH.n_push]) (fun b hb => AH.get_push_ne _ (by omega)) (AH.get_push_eq _ _)
    rw [this, left_nil, any_bad g2]
end
end Go.Lg.Tryz

namespace Go.Lg.Tryz
set_option linter.unusedVariables false
set_option linter.unusedSimpArgs false
open Go Go.Proofs
theorem keysI_M : ∀ {es : List MapEntry} {l : List (Int × Int)}, es.map prI = l.map Mm.encPr → keysI es = some (l.map Prod.fst)
  | [], [], _ => rfl
  | [], p :: l, h => by simp at h
  | e :: es, [], h => by simp at h
  | e :: es, p :: l, h => by
    simp only [List.map_cons, List.cons.injEq, prI, Mm.encPr, Prod.mk.injEq] at h
    simp only [keysI, h.1.1, keyI, Option.bind_some, keysI_M h.2, List.map_cons]
theorem collect_M {fks : List Nat} {fk : Nat} (hfk : fks.any (Nat.beq fk) = true) {h : AH} {bx r : Nat} {l : List (Int × Int)} (hb : h.get bx = some (.cells [.map (some r)] false false 1)) (hm : Mm.MI h r l) (hw : Wk (l.map Prod.fst)) (hl : l.length ≤ 1000000) :
    collectF fks [.func (.func fk) ⟨[]⟩ ⟨[.pointer (some ⟨bx, 0, none⟩)]⟩] h = some ((permsL (l.map Prod.fst)).map (outC h)) := by
  obtain ⟨es, clk, h1, h2, h3, h4⟩ := hm.ex
  have e1 : colMap h bx = some (some r) := by simp only [colMap, hb]
  have hlen : es.length = l.length := by have := congrArg List.length h2; simpa using this
  have hco : collectOk es clk (l.map Prod.fst) = true := by
    simp only [collectOk, Bool.and_eq_true]
    refine ⟨Nat.ble_eq_true_of_le (by rw [hlen]; exact hl), ?_, nodupN_of h4, nodupI_of hm.nk, ?_⟩
    · rw [List.all_eq_true]; intro e he; exact Nat.ble_eq_true_of_le (h3 e he)
    · rw [List.all_eq_true]; exact hw
  have e2 : colKeys h r = some (l.map Prod.fst) := by
    simp only [colKeys, h1, keysI_M h2, Option.bind_some, hco, cond_true]
  simp only [collectF, colArg, Option.bind_some, hfk, cond_true, e1, e2]
theorem sort2_eq' {h : AH} {b c : Nat} {l : List Int} (hb : h.get b = some (.cells (l.map (Value.int .i64)) true false 1)) (hl : l.length ≤ 1000000) (hne : l ≠ []) :
    sort2F [.slice (some ⟨b, 0, none⟩) l.length c] h = some [(.tuple #[], h.set b (some (.cells ((sortI l).map (Value.int .i64)) true false 1)))] := by
  have h0 : Nat.beq l.length 0 = false := by
    cases l with
    | nil => exact absurd rfl hne
    | cons _ _ => rfl
  have h1 : Nat.ble l.length 1000000 = true := Nat.ble_eq_true_of_le hl
  have hrow : ldRow h b 0 l.length = some (l.map (Value.int .i64)) := by
    simp only [ldRow, hb, List.length_map, Nat.zero_add, List.drop_zero]
    rw [Nat.ble_eq_true_of_le (Nat.le_refl _), cond_true, List.take_of_length_le (by simp)]
  have hst : h.st b 0 ((sortI l).map (Value.int .i64)) = some (h.set b (some (.cells ((sortI l).map (Value.int .i64)) true false 1))) := by
    rw [AH.st_of hb (by simp [sortI_len]), setL_all (by simp [sortI_len])]
  simp only [sort2F, h0, cond_false, h1, cond_true, hrow, Option.bind_some, rowI_of, hst]
/-- what Sort does to what Collect gives -/
theorem sorted_of {h : AH} {p : List Int} (hl : p.length ≤ 1000000) {X : Option Addr × Nat × Nat → AH → Res} : ((asS (outC h p).1).bind fun t5 => sumK (sort2F [.slice t5.1 t5.2.1 t5.2.2] (outC h p).2) (fun l => allR (l.map fun q => (asTu q.1).bind fun g => cond g.isEmpty (some (.slice t5.1 t5.2.1 t5.2.2, q.2)) none)) (X t5 (outC h p).2)) =
    some (.slice (aOf h p).1 p.length (aOf h p).2, gOf h p) := by
  cases p with
  | nil => rfl
  | cons x p =>
    have e := sort2_eq' (c := opn) (h := (outC h (x :: p)).2) (b := h.n) (l := x :: p) (AH.get_push_eq _ _) hl (by simp)
    have hps : (outC h (x :: p)).2.set h.n (some (.cells ((sortI (x :: p)).map (Value.int .i64)) true false 1)) = gOf h (x :: p) := AH.push_set _ _ _
    show sumK (sort2F [.slice (some ⟨h.n, 0, none⟩) (x :: p).length opn] (outC h (x :: p)).2) _ _ = _
    rw [e, hps]
    rfl
section
variable {h h' : AH} {w p q : Nat} {W : List (Int × List (Int × Int))} {cs : List Cel} {clk : Int} {F : List Asr}
theorem wright_eq (hh : H h (aW w p W :: F)) : C k_wait_Watch_int_right [.pointer (some ⟨w, 0, none⟩)] h = some (.bool true, h) := by
  obtain ⟨r, wl, rfl, kk⟩ := aW_at hh
  refine wait_Watch_int_right_le _ ?_
  unfold F_wait_Watch_int_right
  have hld : h.ldP w (0 + 0) = some (some ⟨p, 0, none⟩) := AH.ldP_of (kk.g 0 rfl) rfl
  simp only [Option.isNone_some, Bool.not_false, cond_t, Option.bind_some, hld]
theorem parked_ok (hh : H h (aW w p W :: F)) (hw : Wk (W.map Prod.fst)) (hl : W.length ≤ 1000000) : Ok (C k_wait_Watch_int_Parked [.pointer (some ⟨w, 0, none⟩)] h) fun v h' => ∃ a c, v = .slice a W.length c ∧ H h' (aOw 1 a W.length c ((sortI (W.map Prod.fst)).flatMap encI) :: aW w p W :: F) := by
  have hr := wright_eq hh
  have hh0 := hh
  obtain ⟨r, wl, rfl, kk⟩ := aW_at hh
  refine Ok.le ?_ wait_Watch_int_Parked_le
  unfold F_wait_Watch_int_Parked
  simp only [hr, Option.bind_some, asB_b, Bool.not_true, cond_f]
  refine Ok.le ?_ wait_Watch_int_Parked_j1_le
  have hld : h.ldM w (0 + 1) = some (some r) := AH.ldM_of (kk.g 0 rfl) rfl
  simp only [Option.bind_some, hld]
  rw [maps_Keys_map_int_map_int_int64_int_map_int_int64_le _ rfl]
  simp only [Option.bind_some, asG_fn]
  have hm := mm_at (kk.mv 1 rfl)
  have ek : (wl.map fun x => (x.id, (x.rc : Int))).map Prod.fst = (wl.map fun x => (x.id, x.cells)).map Prod.fst := by simp only [List.map_map]; rfl
  let h1 := h.push (.cells [.map (some r)] false false 1)
  have hf1 : Fr [] h h1 := Fr.push _ _ _
  have hm1 : Mm.MI h1 r (wl.map fun x => (x.id, (x.rc : Int))) := MM.same2 hm fun b e => by subst e; exact ⟨hf1.g _ hm.lt (by simp), Nat.lt_of_lt_of_le hm.lt hf1.n⟩
  have hc := collect_M (fks := [192, 230, 233, 307]) (fk := k_maps_Keys_map_int_map_int_int64_int_map_int_int64_1) rfl (h := h1) (bx := h.n) (AH.get_push_eq _ _) hm1 (by rw [ek]; exact hw) (by simpa using hl)
  rw [ek] at hc
  generalize hks : (wl.map fun x => (x.id, x.cells)).map Prod.fst = ks at hc hw
  have hlk : ks.length = wl.length := by rw [← hks]; simp
  refine Ok.bind (Q := fun v h' => v = .slice (aOf h1 ks).1 ks.length (aOf h1 ks).2 ∧ h' = gOf h1 ks) (Ok.le ?_ slices_Sorted_int_le) ?_
  · unfold F_slices_Sorted_int
    rw [show collectF [192, 230, 233, 307] [fnV (some (k_maps_Keys_map_int_map_int_int64_int_map_int_int64_1, [], [.pointer (some ⟨h.n, 0, none⟩)]))] (h.push (.cells [.map (some r)] false false 1)) = some ((permsL ks).map (outC h1)) from hc]
    simp only [sumK, List.map_map]
    have hne : ∃ p ps, permsL ks = p :: ps := by
      have := mem_permsL (List.Perm.refl ks)
      cases hq : permsL ks with
      | nil => rw [hq] at this; simp at this
      | cons p ps => exact ⟨p, ps, rfl⟩
    obtain ⟨p0, ps, hps⟩ := hne
    have hall : ∀ q ∈ permsL ks, q.Perm ks := fun q hq => permsL_perm hq
    have wl1 : wl.length ≤ 1000000 := by simpa using hl
    have key : ∀ p : List Int, p.Perm ks → ∀ X : Option Addr × Nat × Nat → AH → Res, ((asS (outC h1 p).1).bind fun t5 => sumK (sort2F [.slice t5.1 t5.2.1 t5.2.2] (outC h1 p).2) (fun l => allR (l.map fun q => (asTu q.1).bind fun g => cond g.isEmpty (some (.slice t5.1 t5.2.1 t5.2.2, q.2)) none)) (X t5 (outC h1 p).2)) =
        some (.slice (aOf h1 ks).1 ks.length (aOf h1 ks).2, gOf h1 ks) := by
      intro p hp X
      rw [sorted_of (by rw [hp.length_eq]; omega), (gOf_perm hp).1, (gOf_perm hp).2, hp.length_eq]
    rw [hps] at hall ⊢
    simp only [List.map_cons, Function.comp]
    rw [allR_same]
    · have k1 := key p0 (hall p0 (by simp)) (fun t5 h3 => (C k_slices_Sort_int_int [.slice t5.1 t5.2.1 t5.2.2] h3).bind fun r10 => (asTu r10.1).bind fun g11 => cond g11.isEmpty (some (.slice t5.1 t5.2.1 t5.2.2, r10.2)) none)
      unfold sumK at k1
      exact Ok.eq k1 ⟨rfl, rfl⟩
    · intro x hx
      obtain ⟨q, hq, rfl⟩ := List.mem_map.mp hx
      have k1 := key p0 (hall p0 (by simp)) (fun t5 h3 => (C k_slices_Sort_int_int [.slice t5.1 t5.2.1 t5.2.2] h3).bind fun r10 => (asTu r10.1).bind fun g11 => cond g11.isEmpty (some (.slice t5.1 t5.2.1 t5.2.2, r10.2)) none)
      have k2 := key q (hall q (List.mem_cons_of_mem _ hq)) (fun t5 h3 => (C k_slices_Sort_int_int [.slice t5.1 t5.2.1 t5.2.2] h3).bind fun r10 => (asTu r10.1).bind fun g11 => cond g11.isEmpty (some (.slice t5.1 t5.2.1 t5.2.2, r10.2)) none)
      unfold sumK at k1 k2
      exact k2.trans k1.symm
  · rintro v h' ⟨rfl, rfl⟩
    simp only [asS_s, Option.bind_some]
    have ew : (wl.map fun x => (x.id, x.cells)).length = ks.length := by rw [hlk]; simp
    rw [ew]
    refine Ok.some ⟨_, _, rfl, ?_⟩
    have hh1 : H h1 (aW w p (wl.map fun x => (x.id, x.cells)) :: F) := hh0.fr hf1
    cases hq : ks with
    | nil => rw [show sortI ([] : List Int) = [] from List.eq_nil_of_length_eq_zero (sortI_len _)]; exact hh1.owNil 1
    | cons y l =>
      refine hh1.fresh (h' := gOf h1 (y :: l)) (Nat.le_succ _) (fun b hb => AH.get_push_ne _ (by omega)) (fun b hb => by obtain rfl : h1.n = b := hb; exact Nat.le_refl _) ?_ ?_
      · intro b hb
        obtain rfl : h1.n = b := hb
        exact ⟨by rw [show (gOf h1 (y :: l)).get h1.n = _ from AH.get_push_eq _ _]; rfl, by show h1.n < h1.n + 1; omega⟩
      · intro h'' hg
        obtain ⟨g1, g2⟩ := hg h1.n rfl
        rw [flatI]
        exact .mk (by rw [g1]; exact AH.get_push_eq _ _) (by rw [List.length_map, sortI_len]; omega) g2
end
end Go.Lg.Tryz

namespace Go.Lg.Tryz
set_option linter.unusedVariables false
set_option linter.unusedSimpArgs false
open Go Go.Proofs
section
variable {h h' : AH} {F : List Asr} {b : Nat} {x : Blk} {Φ : AH → Prop}
theorem up_ptI (hh : H h (Up Φ (blk (some ⟨b, 0, none⟩)) :: F)) (hg : h.get b = some x) : H h (Pt b x :: F) := by
  obtain ⟨m, h1, a, r, d, rfl, ha, hb⟩ := hh
  refine ⟨_, h1, a, r, d, rfl, ?_, hb⟩
  show a = Hp.one b x
  funext c
  unfold Hp.one
  by_cases e : c = b
  · subst e
    rw [if_pos rfl]
    obtain ⟨y, hy⟩ := Option.isSome_iff_exists.mp ((ha.1 c).mpr rfl)
    have := (h1.left c y hy).1
    rw [hg] at this
    rw [hy]; exact this.symm
  · rw [if_neg e]
    cases hc : a c with
    | none => rfl
    | some y => exact absurd ((ha.1 c).mp (by rw [hc]; rfl)) (fun q => e q.symm)
theorem pt_upI (hh : H h (Pt b x :: F)) (hs : ∀ h', h'.get b = some x → b < h'.n → Φ h') : H h (Up Φ (blk (some ⟨b, 0, none⟩)) :: F) := by
  obtain ⟨m, h1, a, r, d, rfl, ha, hb⟩ := hh
  refine ⟨_, h1, a, r, d, rfl, ⟨fun c => ?_, fun h' hi => ?_⟩, hb⟩
  · rw [show a = Hp.one b x from ha]
    unfold Hp.one
    by_cases e : c = b
    · subst e; simp [blk]
    · rw [if_neg e]
      exact ⟨fun q => (by cases q), fun q => absurd (show b = c from q).symm e⟩
  · have := hi b x (by rw [show a = Hp.one b x from ha]; unfold Hp.one; rw [if_pos rfl])
    exact hs h' this.1 this.2
theorem rd_nil (hh : H h F) (a : Option Addr) : H h (aRd a [] :: F) := hh.fresh (Nat.le_refl _) (fun _ _ => rfl) (fun b hb => absurd rfl hb.1) (fun b hb => absurd rfl hb.1) fun _ _ => .inl rfl
theorem pt_rd {l : List Int} {rest : List Value} {op ro : Bool} {e : Nat} (hh : H h (Pt b (.cells (l.map (Value.int .i64) ++ rest) op ro e) :: F)) : H h (aRd (some ⟨b, 0, none⟩) (l.flatMap encI) :: F) := by
  rw [flatI]
  cases l with
  | nil => exact rd_nil hh.drop _
  | cons y l =>
    have hne : (y :: l).map (Value.int .i64) ≠ [] := by simp
    refine (pt_upI (Φ := fun h => Rd h (some ⟨b, 0, none⟩) ((y :: l).map (Value.int .i64))) hh fun h' g lt => .inr ⟨_, _, _, _, _, rfl, g, lt, fun k v hk => ?_⟩).imp fun m hm => ⟨fun c => (hm.1 c).trans ⟨fun e => ⟨hne, e⟩, fun e => e.2⟩, hm.2⟩
    rw [Nat.zero_add, List.getElem?_append_left (List.getElem?_eq_some_iff.mp hk).1]; exact hk
end
section
variable {b c : Nat} {l : List Int} {d : Int → Bool} {I : Asr} {fid : FuncId} {post : List Value} {cells : List Value}
/-- the callback -/
abbrev Cb1 (l : List Int) (d : Int → Bool) (I : Asr) (fid : FuncId) (post : List Value) : Prop :=
  ∀ x h G, x ∈ l → H h (I :: G) → Ok (C fid ([] ++ [.int .i64 x] ++ post) h) fun v h' => v = .bool (d x) ∧ H h' (I :: G)
theorem fnQ_1 (c : FuncId × List Value × List Value) : fnQ (fnV (some c)) = some c := rfl
theorem ix1 (hb : hasBody Tryz.prog fid = true) (cb : Cb1 l d I fid post) (hl : l.length < 1000000) (hrd : ∀ (k : Nat) x, l[k]? = some x → cells[k]? = some (.int .i64 x)) : ∀ (n k : Nat) (h : AH) (F : List Asr), l.length - k = n → k ≤ l.length → (∀ x ∈ l.take k, d x = false) →
    H h (I :: Pt b (.cells cells true false 1) :: F) → Ok (slices_IndexFunc_int_int_L1 (some ⟨b, 0, none⟩) l.length (some (fid, [], post)) c ((l.length : Nat) : Int) (k : Nat) h) fun v h' => H h' (I :: Pt b (.cells cells true false 1) :: F) ∧
      ((v = .int .i64 (-1) ∧ ∀ x ∈ l, d x = false) ∨ ∃ m : Nat, m < l.length ∧ v = .int .i64 (m : Nat) ∧ (∀ x ∈ l.take m, d x = false) ∧ ∃ x, l[m]? = some x ∧ d x = true) := by
  intro n
  induction n with
  | zero =>
    intro k h F hn hk hd w
    obtain rfl : k = l.length := by omega
    refine Ok.le ?_ slices_IndexFunc_int_int_L1_le
    refine Ok.le ?_ slices_IndexFunc_int_int_j4_le
    rw [dec_f (by omega), cond_f]
    refine Ok.le ?_ slices_IndexFunc_int_int_j1_le
    rw [List.take_length] at hd
    exact Ok.some ⟨w, .inl ⟨rfl, hd⟩⟩
  | succ n ih =>
    intro k h F hn hk hd w
    have hkl : k < l.length := by omega
    obtain ⟨x, hx⟩ : ∃ x, l[k]? = some x := ⟨_, List.getElem?_eq_getElem hkl⟩
    refine Ok.le ?_ slices_IndexFunc_int_int_L1_le
    refine Ok.le ?_ slices_IndexFunc_int_int_j4_le
    rw [dec_t (by omega), cond_t]
    refine Ok.le ?_ slices_IndexFunc_int_int_j3_le
    have hi : inB ((k : Nat) : Int) l.length = true := inB_t (by omega) (by omega)
    have hld : h.ldI .i64 b (0 + k * 1) = some x := AH.ldI_of (w.g 1 rfl) (by rw [show 0 + k * 1 = k by omega]; exact hrd k x hx)
    simp only [Option.bind_some, hi, cond_t, Int.toNat_natCast, hld, fnQ_1, hb]
    refine Ok.bind (cb x h _ (List.mem_of_getElem? hx) w) ?_
    rintro _ h2 ⟨rfl, w2⟩
    simp only [asB_b, Option.bind_some]
    cases hdx : d x with
    | true =>
      rw [cond_t]
      exact Ok.some ⟨w2, .inr ⟨k, hkl, rfl, hd, x, hx, hdx⟩⟩
    | false =>
      rw [cond_f]
      refine Ok.le ?_ slices_IndexFunc_int_int_j2_le
      rw [show IntKind.wrap .i64 (((k : Nat) : Int) + 1) = ((k + 1 : Nat) : Int) by rw [wrap64 (by omega) (by omega)]; omega]
      refine ih (k + 1) h2 F (by omega) (by omega) ?_ w2
      intro y hy
      rw [List.take_add_one, hx] at hy
      rcases List.mem_append.mp hy with hy | hy
      · exact hd y hy
      · have : y = x := by simpa using hy
        rw [this]; exact hdx
theorem setL_at (l r : List Value) (x v : Value) : AH.setL (l ++ x :: r) l.length [v] = l ++ v :: r := by
  simp only [AH.setL]
  rw [List.set_append_right _ _ (Nat.le_refl _), Nat.sub_self]; rfl
theorem setL_tail : ∀ (vs l r : List Value), vs.length = r.length → AH.setL (l ++ r) l.length vs = l ++ vs
  | [], l, r, h => by
    have : r = [] := List.eq_nil_of_length_eq_zero (by simpa using h.symm)
    subst this; rfl
  | v :: vs, l, [], h => by simp at h
  | v :: vs, l, y :: r, h => by
    simp only [AH.setL]
    rw [List.set_append_right _ _ (Nat.le_refl _), Nat.sub_self, List.set_cons_zero]
    have := setL_tail vs (l ++ [v]) r (by simpa using h)
    rw [List.length_append, List.append_assoc, List.append_assoc] at this
    exact this
theorem df1 (hb : hasBody Tryz.prog fid = true) (cb : Cb1 l d I fid post) (hl : l.length < 1000000) : ∀ (n k : Nat) (h : AH) (K : List Int) (R : List Value) (F : List Asr), l.length - k = n → k ≤ l.length → K.length < k →
    K = (l.take k).filter (fun x => !d x) → K.length + R.length = l.length → (∀ (j : Nat) x, k ≤ j → l[j]? = some x → (K.map (Value.int .i64) ++ R)[j]? = some (.int .i64 x)) →
    H h (I :: Pt b (.cells (K.map (Value.int .i64) ++ R) true false 1) :: F) → Ok (slices_DeleteFunc_int_int_L1 l.length (some ⟨b, 0, none⟩) (some (fid, [], post)) opn (K.length : Nat) (k : Nat) h) fun v h' =>
      v = .slice (some ⟨b, 0, none⟩) (l.filter (fun x => !d x)).length opn ∧ H h' (aRd (some ⟨b, 0, none⟩) ((l.filter (fun x => !d x)).flatMap encI) :: I :: F) := by
  intro n
  induction n with
  | zero =>
    intro k h K R F hn hk hik hK hlen hrd w
    obtain rfl : k = l.length := by omega
    rw [List.take_length] at hK
    refine Ok.le ?_ slices_DeleteFunc_int_int_L1_le
    rw [dec_f (by omega), cond_f]
    refine Ok.le ?_ slices_DeleteFunc_int_int_j1_le
    have hb10 : Nat.beq 1 0 = false := rfl
    have hg := w.g 1 rfl
    have htop : ((K.map (Value.int .i64) ++ R).length - 0) / 1 = l.length := by rw [List.length_append, List.length_map]; omega
    have q1 : slcE 1 (some ⟨b, 0, none⟩) l.length opn (some (.int .i64 ((K.length : Nat) : Int))) none none h = some (.slice (some ⟨b, 0 + K.length * 1, none⟩) (l.length - K.length) opn, h) := by
      simp only [slcE, blt_opn, cond_f, hg, Nat.beq_refl, cond_t, htop, hb10]
      rw [bnd0, bnd rfl (by omega)]
    obtain ⟨c0, hc0⟩ : ∃ c0, l.length - K.length = c0 + 1 := ⟨l.length - K.length - 1, by omega⟩
    have hrl : (repL [Value.int .i64 0] (c0 + 1)).length = c0 + 1 := by
      have : ∀ n, (repL [Value.int .i64 0] n).length = n := fun n => by
        induction n with
        | zero => rfl
        | succ n ih => simp only [repL, List.length_append, ih]; simp; omega
      exact this _
    obtain ⟨h2, s2, w2, n2⟩ := w.u1.st (o := 0 + K.length * 1) (repL [.int .i64 0] (c0 + 1)) (by rw [List.length_append, List.length_map, hrl]; omega)
    have q2 : clrE [.int .i64 0] (some ⟨b, 0 + K.length * 1, none⟩) (l.length - K.length) h = some h2 := by rw [hc0]; exact s2
    rw [show 0 + K.length * 1 = (K.map (Value.int .i64)).length by rw [List.length_map]; omega, setL_tail _ _ _ (by rw [hrl]; omega)] at w2
    have hg2 := w2.get
    have q3 : slcE 1 (some ⟨b, 0, none⟩) l.length opn none (some (.int .i64 ((K.length : Nat) : Int))) none h2 = some (.slice (some ⟨b, 0, none⟩) K.length opn, h2) := by
      have htop2 : ((K.map (Value.int .i64) ++ repL [Value.int .i64 0] (c0 + 1)).length - 0) / 1 = l.length := by
        rw [List.length_append, List.length_map, hrl]; omega
      simp only [slcE, blt_opn, cond_f, hg2, Nat.beq_refl, cond_t, htop2, hb10]
      rw [bnd rfl (by omega), bnd0, Nat.zero_mul, Nat.sub_zero]
    simp only [q1, q2, q3, Option.bind_some, asS_s]
    rw [← hK]
    exact Ok.some ⟨rfl, pt_rd w2⟩
  | succ n ih =>
    intro k h K R F hn hk hik hK hlen hrd w
    have hkl : k < l.length := by omega
    obtain ⟨x, hx⟩ : ∃ x, l[k]? = some x := ⟨_, List.getElem?_eq_getElem hkl⟩
    refine Ok.le ?_ slices_DeleteFunc_int_int_L1_le
    rw [dec_t (by omega), cond_t]
    refine Ok.le ?_ slices_DeleteFunc_int_int_j3_le
    have hi : inB ((k : Nat) : Int) l.length = true := inB_t (by omega) (by omega)
    have hld : h.ldI .i64 b (0 + k * 1) = some x := AH.ldI_of (w.g 1 rfl) (by rw [show 0 + k * 1 = k by omega]; exact hrd k x (Nat.le_refl _) hx)
    simp only [Option.bind_some, hi, cond_t, Int.toNat_natCast, hld, fnQ_1, hb]
    refine Ok.bind (cb x h _ (List.mem_of_getElem? hx) w) ?_
    rintro _ h2 ⟨rfl, w2⟩
    simp only [asB_b, Option.bind_some]
    have hw : IntKind.wrap .i64 (((k : Nat) : Int) + 1) = ((k + 1 : Nat) : Int) := by rw [wrap64 (by omega) (by omega)]; omega
    have htk : l.take (k + 1) = l.take k ++ [x] := by rw [List.take_add_one, hx]; rfl
    cases hdx : d x with
    | true =>
      rw [Bool.not_true, cond_f]
      refine Ok.le ?_ slices_DeleteFunc_int_int_j2_le
      rw [hw]
      refine ih (k + 1) h2 K R F (by omega) (by omega) (by omega) ?_ hlen (fun j x h1 h3 => hrd j x (by omega) h3) w2
      rw [htk, List.filter_append, ← hK]
      simp [hdx]
    | false =>
      rw [Bool.not_false, cond_t]
      have hi2 : inB ((K.length : Nat) : Int) l.length = true := inB_t (by omega) (by omega)
      obtain ⟨y, R', rfl⟩ : ∃ y R', R = y :: R' := by
        cases R with
        | nil => simp at hlen; omega
        | cons y R' => exact ⟨y, R', rfl⟩
      obtain ⟨h3, s3, w3, n3⟩ := w2.u1.st (o := 0 + K.length * 1) [.int .i64 x] (by rw [List.length_append, List.length_map]; simp)
      rw [show 0 + K.length * 1 = (K.map (Value.int .i64)).length by rw [List.length_map]; omega] at s3 w3
      rw [setL_at] at w3
      have s4 : h2.st b (0 + K.length * 1) [.int .i64 x] = some h3 := by rw [show 0 + K.length * 1 = (K.map (Value.int .i64)).length by rw [List.length_map]; omega]; exact s3
      simp only [Option.bind_some, hi2, cond_t, Int.toNat_natCast, s4]
      refine Ok.le ?_ slices_DeleteFunc_int_int_j2_le
      rw [hw, show IntKind.wrap .i64 (((K.length : Nat) : Int) + 1) = (((K ++ [x]).length : Nat) : Int) by rw [wrap64 (by omega) (by omega)]; simp]
      have e3 : K.map (Value.int .i64) ++ .int .i64 x :: R' = (K ++ [x]).map (Value.int .i64) ++ R' := by simp
      rw [e3] at w3
      refine ih (k + 1) h3 (K ++ [x]) R' F (by omega) (by omega) (by simp; omega) ?_ (by simp at hlen ⊢; omega) ?_ w3.u1
      · rw [htk, List.filter_append, ← hK]
        simp [hdx]
      · intro j z h1 h4
        have := hrd j z (by omega) h4
        rw [← e3]
        rw [List.getElem?_append_right (by rw [List.length_map]; omega)] at this ⊢
        rw [List.length_map] at this ⊢
        obtain ⟨t, ht⟩ : ∃ t, j - K.length = t + 1 := ⟨j - K.length - 1, by omega⟩
        rw [ht] at this ⊢
        exact this
theorem deleteI {h : AH} {F : List Asr} {a : Option Addr} {n c : Nat} (hb : hasBody Tryz.prog fid = true) (cb : Cb1 l d I fid post) (hl : l.length < 1000000) (hn : n = l.length) (w : H h (aOw 1 a n c (l.flatMap encI) :: I :: F)) :
    Ok (C k_slices_DeleteFunc_int_int [.slice a n c, fnV (some (fid, [], post))] h) fun v h' => v = .slice a (l.filter (fun x => !d x)).length c ∧ H h' (aRd a ((l.filter (fun x => !d x)).flatMap encI) :: I :: F) := by
  refine Ok.le ?_ slices_DeleteFunc_int_int_le
  unfold F_slices_DeleteFunc_int_int
  have ho : Ow h 1 a n c (l.flatMap encI) := w.ow
  have ix : ∀ {Q : Value → AH → Prop}, Ok (slices_IndexFunc_int_int_L1 a n (some (fid, [], post)) c ((n : Nat) : Int) 0 h) Q → Ok (C k_slices_IndexFunc_int_int [.slice a n c, fnV (some (fid, [], post))] h) Q := fun k => by
    refine Ok.le ?_ slices_IndexFunc_int_int_le
    exact k
  rw [flatI] at ho w
  generalize hcs : l.map (Value.int .i64) = cs at ho w
  cases ho with
  | nil =>
    have hl0 : l = [] := by
      cases l with
      | nil => rfl
      | cons x l => simp at hcs
    subst hl0
    refine Ok.bind (Q := fun v h' => v = .int .i64 (-1) ∧ h' = h) ?_ ?_
    · refine ix ?_
      refine Ok.le ?_ slices_IndexFunc_int_int_L1_le
      refine Ok.le ?_ slices_IndexFunc_int_int_j4_le
      rw [dec_f (by simp), cond_f]
      refine Ok.le ?_ slices_IndexFunc_int_int_j1_le
      exact Ok.some ⟨rfl, rfl⟩
    · rintro _ h' ⟨rfl, rfl⟩
      simp only [asI_i64, Option.bind_some, decide_true, cond_t]
      exact Ok.some ⟨rfl, rd_nil w.drop _⟩
  | @mk b _ _ hb1 hl1 hn1 =>
    subst hn
    have w2 : H h (I :: Pt b (.cells cs true false 1) :: F) := (up_ptI w hb1).u1
    have hrd : ∀ (k : Nat) x, l[k]? = some x → cs[k]? = some (.int .i64 x) := fun k x hx => by rw [← hcs, List.getElem?_map, hx]; rfl
    refine Ok.bind (ix (ix1 hb cb hl hrd l.length 0 h F rfl (Nat.zero_le _) (by simp) w2)) ?_
    rintro _ h3 ⟨w3, ⟨rfl, hd⟩ | ⟨m, hm, rfl, hd, x, hx, hdx⟩⟩
    · simp only [asI_i64, Option.bind_some, decide_true, cond_t]
      have : l.filter (fun x => !d x) = l := List.filter_eq_self.mpr fun x hx => by rw [hd x hx]; rfl
      rw [this]
      refine Ok.some ⟨rfl, pt_rd (rest := []) (op := true) (ro := false) (e := 1) ?_⟩
      rw [List.append_nil, hcs]; exact w3.u1
    · simp only [asI_i64, Option.bind_some]
      rw [dec_f (by omega), cond_f]
      refine Ok.le ?_ slices_DeleteFunc_int_int_j4_le
      rw [show IntKind.wrap .i64 (((m : Nat) : Int) + 1) = ((m + 1 : Nat) : Int) by rw [wrap64 (by omega) (by omega)]; omega]
      have hk0 : (l.take m).filter (fun x => !d x) = l.take m := List.filter_eq_self.mpr fun x hx => by rw [hd x hx]; rfl
      have hk1 : (l.take (m + 1)).filter (fun x => !d x) = l.take m := by
        rw [List.take_add_one, hx, List.filter_append, hk0]
        simp [hdx]
      have hlt : (l.take m).length = m := by rw [List.length_take]; omega
      have hsp : cs = (l.take m).map (Value.int .i64) ++ (l.drop m).map (Value.int .i64) := by rw [← List.map_append, List.take_append_drop, hcs]
      rw [hsp] at w3 hrd
      have key := df1 hb cb hl (l.length - (m + 1)) (m + 1) h3 (l.take m) _ F rfl (by omega) (by omega) hk1.symm (by rw [List.length_map, List.length_drop, hlt]; omega) (fun j x _ h2 => hrd j x h2) w3
      rw [hlt] at key
      exact key
end
end Go.Lg.Tryz

namespace Go.Lg.Tryz
set_option linter.unusedVariables false
set_option linter.unusedSimpArgs false
open Go Go.Proofs
def delW (id : Int) : List (Int × List (Int × Int)) → List (Int × List (Int × Int))
  | [] => []
  | x :: l => if x.1 = id then l else x :: delW id l
abbrev pr1 (x : WT) : Int × Int := (x.id, (x.rc : Int))
abbrev pr2 (x : WT) : Int × List (Int × Int) := (x.id, x.cells)
theorem find_del (id : Int) : ∀ wl : List WT, (alook (wl.map pr1) id = none ∧ find id (wl.map pr2) = none ∧ adelL (wl.map pr1) id = wl.map pr1 ∧ delW id (wl.map pr2) = wl.map pr2) ∨
    ∃ (j : Nat) (x : WT), wl[j]? = some x ∧ x.id = id ∧ alook (wl.map pr1) id = some (x.rc : Int) ∧ find id (wl.map pr2) = some x.cells ∧ adelL (wl.map pr1) id = (wl.eraseIdx j).map pr1 ∧ delW id (wl.map pr2) = (wl.eraseIdx j).map pr2
  | [] => .inl ⟨rfl, rfl, rfl, rfl⟩
  | x :: wl => by
    by_cases hx : x.id = id
    · exact .inr ⟨0, x, rfl, hx, by simp [alook, hx], by simp [find, hx], by simp [adelL, hx], by simp [delW, hx]⟩
    · rcases find_del id wl with ⟨h1, h2, h3, h4⟩ | ⟨j, y, h1, h2, h3, h4, h5, h6⟩
      · exact .inl ⟨by simp only [List.map_cons, alook, if_neg hx]; exact h1, by simp only [List.map_cons, find, if_neg hx]; exact h2, by simp only [List.map_cons, adelL, if_neg hx]; rw [h3], by simp only [List.map_cons, delW, if_neg hx]; rw [h4]⟩
      · exact .inr ⟨j + 1, y, by simpa using h1, h2, by simp only [List.map_cons, alook, if_neg hx]; exact h3, by simp only [List.map_cons, find, if_neg hx]; exact h4, by simp only [List.map_cons, adelL, if_neg hx, List.eraseIdx_cons_succ]; rw [h5], by simp only [List.map_cons, delW, if_neg hx, List.eraseIdx_cons_succ]; rw [h6]⟩
section
variable {h h' : AH} {w p q : Nat} {W : List (Int × List (Int × Int))} {cs : List Cel} {clk : Int} {F : List Asr}
theorem aW_del (hh : H h (aW w p W :: F)) (id : Int) : ∃ r, h.ldM w (0 + 1) = some (some r) ∧ ∃ h', adel (.int .i64) (.map (some r)) (.int .i64 id) h = some h' ∧ H h' (aW w p (delW id W) :: F) := by
  obtain ⟨r, wl, rfl, kk⟩ := aW_at hh
  refine ⟨r, AH.ldM_of (kk.g 0 rfl) rfl, ?_⟩
  obtain ⟨h', e1, w1⟩ := mm_del (kk.mv 1 rfl) id
  refine ⟨h', e1, ?_⟩
  rcases find_del id wl with ⟨_, _, h3, h4⟩ | ⟨j, x, f0, _, _, _, h5, h6⟩
  · rw [show adelL (wl.map fun x => (x.id, (x.rc : Int))) id = wl.map pr1 from h3] at w1
    rw [show delW id (wl.map fun x => (x.id, x.cells)) = wl.map pr2 from h4]
    exact aW_mk rfl w1.u1
  · rw [show adelL (wl.map fun x => (x.id, (x.rc : Int))) id = (wl.eraseIdx j).map pr1 from h5] at w1
    rw [show delW id (wl.map fun x => (x.id, x.cells)) = (wl.eraseIdx j).map pr2 from h6]
    have w2 := H.take_i (f := fun x : WT => aMI x.rc x.cells) f0 (w1.mv 2 rfl)
    exact aW_mk rfl (w2.drop.pm [2, 1, 0])
theorem look_W (hh : H h (aW w p W :: F)) (id : Int) : ∃ r es v m, h.ldM w (0 + 1) = some (some r) ∧ mapOf h (.map (some r)) = some es ∧ es.length = W.length ∧ (∀ {P : Program} {e : TypeId}, zeroOf P e = some (.map none) → lookE P (.int .i64) e (.int .i64 id) es = some (v, (find id W).isSome)) ∧ asM v = some m := by
  obtain ⟨r, wl, rfl, kk⟩ := aW_at hh
  obtain ⟨es, e1, e2, e3⟩ := mm_map (kk.mv 1 rfl)
  rcases find_del id wl with ⟨h1, h2, _⟩ | ⟨j, x, _, _, h1, h2, _⟩
  · refine ⟨r, es, .map none, none, AH.ldM_of (kk.g 0 rfl) rfl, e1, by rw [e2]; simp, fun hz => ?_, rfl⟩
    rw [Mm.look_eq hz e3 id, show find id (wl.map fun x => (x.id, x.cells)) = none from h2, show alook (wl.map fun x => (x.id, (x.rc : Int))) id = none from h1]
    rfl
  · refine ⟨r, es, .map (some x.rc), some x.rc, AH.ldM_of (kk.g 0 rfl) rfl, e1, by rw [e2]; simp, fun hz => ?_, rfl⟩
    rw [Mm.look_eq hz e3 id, show find id (wl.map fun x => (x.id, x.cells)) = some x.cells from h2, show alook (wl.map fun x => (x.id, (x.rc : Int))) id = some (x.rc : Int) from h1]
    rfl
theorem forget_ok (hh : H h (aW w p W :: F)) (id : Int) : Ok (C k_wait_Watch_int_Forget [.pointer (some ⟨w, 0, none⟩), .int .i64 id] h) fun v h' => v = .bool (find id W).isSome ∧ H h' (aW w p (delW id W) :: F) := by
  refine Ok.le ?_ wait_Watch_int_Forget_le
  unfold F_wait_Watch_int_Forget
  simp only [wright_eq hh, Option.bind_some, asB_b, Bool.not_true, cond_f]
  refine Ok.le ?_ wait_Watch_int_Forget_j1_le
  obtain ⟨r, es, v, m, l1, l2, l3, l4, l5⟩ := look_W hh id
  obtain ⟨r', d1, h', d2, d3⟩ := aW_del hh id
  rw [l1] at d1
  obtain rfl := Option.some.inj (Option.some.inj d1)
  simp only [Option.bind_some, l1, l2]
  rw [l4 ?hz]
  case hz => kernel_rfl
  simp only [Option.bind_some, l5, d2]
  exact Ok.some ⟨rfl, d3⟩
theorem ow_rd {a : Option Addr} {n c : Nat} {l : List Int} (hh : H h (aOw 1 a n c (l.flatMap encI) :: F)) : H h (aRd a (l.flatMap encI) :: F) := by
  have ho : Ow h 1 a n c (l.flatMap encI) := hh.ow
  rw [flatI] at ho hh
  generalize hcs : l.map (Value.int .i64) = cs at ho hh
  cases ho with
  | nil =>
    have hl0 : l = [] := by
      cases l with
      | nil => rfl
      | cons x l => simp at hcs
    subst hl0
    exact rd_nil hh.drop _
  | @mk b _ _ hb hl hn =>
    refine pt_rd (rest := []) (op := true) (ro := false) (e := 1) ?_
    rw [List.append_nil, hcs]
    exact up_ptI hh hb
/-- the versions of what has been read -/
def cellsOf (m : TM) : List (Int × Int) := (sortI (m.σ.reads.map Prod.fst)).foldl (fun c i => aputL c i (aval (alook m.σ.reads i))) []
def parkM (W : List (Int × List (Int × Int))) (m : TM) (id : Int) : Int × List (Int × List (Int × Int)) :=
  if id < 1 then (2, W) else if (find id W).isSome then (130, W) else if W.length = 64 then (5, W) else (0, W ++ [(id, cellsOf m)])
theorem put_new {id rc : Int} : ∀ {l : List (Int × Int)}, alook l id = none → aputL l id rc = l ++ [(id, rc)]
  | [], _ => rfl
  | x :: l, h => by
    unfold alook at h
    split at h
    · cases h
    · rename_i hx
      unfold aputL
      rw [if_neg hx, put_new h]; rfl
theorem park_loop {m : TM} {t : Nat} {id : Int} {rc : Nat} {a : Option Addr} {c : Nat} {L : List Int} (hL : L.length < 1000000) (hid : find id W = none) : ∀ (n k : Nat) (h : AH) (F : List Asr), L.length - k = n → k ≤ L.length →
    H h (aMI rc ((L.take k).foldl (fun c i => aputL c i (aval (alook m.σ.reads i))) []) :: aRd a (L.flatMap encI) :: aTX p t m :: aW w p W :: F) →
    Ok (wait_Watch_int_Park_L1 (some ⟨t, 0, none⟩) id (some ⟨w, 0, none⟩) (some rc) a L.length c (L.length : Nat) (k : Nat) h) fun v h' => v = .int .i64 0 ∧ H h' (aW w p (W ++ [(id, L.foldl (fun c i => aputL c i (aval (alook m.σ.reads i))) [])]) :: aTX p t m :: F) := by
  intro n
  induction n with
  | zero =>
    intro k h F hn hk hh
    obtain rfl : k = L.length := by omega
    rw [List.take_length] at hh
    refine Ok.le ?_ wait_Watch_int_Park_L1_le
    refine Ok.le ?_ wait_Watch_int_Park_j4_le
    rw [dec_f (by omega), cond_f]
    refine Ok.le ?_ wait_Watch_int_Park_j1_le
    obtain ⟨r, wl, rfl, kk⟩ := aW_at (hh.mv 3 rfl)
    have hld : h.ldM w (0 + 1) = some (some r) := AH.ldM_of (kk.g 0 rfl) rfl
    obtain ⟨h', e1, w1⟩ := mm_put (kk.mv 1 rfl) id (rc : Int)
    rw [Int.toNat_natCast] at e1
    simp only [Option.bind_some, hld, e1]
    have h1 : alook (wl.map fun x => (x.id, (x.rc : Int))) id = none := by
      rcases find_del id wl with ⟨h1, _⟩ | ⟨j, x, _, _, _, h2, _⟩
      · exact h1
      · rw [show find id (wl.map fun x => (x.id, x.cells)) = some x.cells from h2] at hid; cases hid
    rw [put_new h1] at w1
    generalize L.foldl (fun c i => aputL c i (aval (alook m.σ.reads i))) [] = cells at w1
    refine Ok.some ⟨rfl, ?_⟩
    have e2 : (wl.map fun x => (x.id, (x.rc : Int))) ++ [(id, (rc : Int))] = (wl ++ [(⟨id, rc, cells⟩ : WT)]).map fun x => (x.id, (x.rc : Int)) := by simp
    have e3 : (wl.map fun x => (x.id, x.cells)) ++ [(id, cells)] = (wl ++ [(⟨id, rc, cells⟩ : WT)]).map fun x => (x.id, x.cells) := by simp
    rw [e2] at w1
    rw [e3]
    have w2 : H h' (aMI rc cells :: Lay (wl.map fun x => aMI x.rc x.cells) :: aMM r ((wl ++ [(⟨id, rc, cells⟩ : WT)]).map fun x => (x.id, (x.rc : Int))) :: Cs w [.pointer (some ⟨p, 0, none⟩), .map (some r)] 2 :: aRd a (L.flatMap encI) :: aTX p t m :: F) := w1.pm [3, 2, 0, 1, 4, 5]
    have w3 := H.snoc_i (f := fun x : WT => aMI x.rc x.cells) (x := ⟨id, rc, cells⟩) w2
    exact (aW_mk rfl (w3.pm [2, 1, 0])).rm 1 rfl
  | succ n ih =>
    intro k h F hn hk hh
    have hkl : k < L.length := by omega
    obtain ⟨x, hx⟩ : ∃ x, L[k]? = some x := ⟨_, List.getElem?_eq_getElem hkl⟩
    refine Ok.le ?_ wait_Watch_int_Park_L1_le
    refine Ok.le ?_ wait_Watch_int_Park_j4_le
    rw [dec_t (by omega), cond_t]
    refine Ok.le ?_ wait_Watch_int_Park_j3_le
    obtain ⟨ad, rfl, e1⟩ := rd_int (hh.mv 1 rfl).rd hx
    have e2 := MSeen (hh.mv 2 rfl) x
    obtain ⟨h', e3, w1⟩ := mi_put hh x (aval (alook m.σ.reads x))
    have e2 : C k_tl2_Tx_int_Seen [.pointer (some ⟨t, 0, none⟩), .int .i64 x] h = _ := e2
    simp only [Option.bind_some, inB_t (show (0 : Int) ≤ (k : Int) by omega) (show (k : Int) < (L.length : Nat) by omega), cond_t, Int.toNat_natCast, e1, e2, asTu_t, hdO_c, asI_i64, asB_b, List.isEmpty_nil, e3]
    refine Ok.le ?_ wait_Watch_int_Park_j2_le
    rw [show IntKind.wrap .i64 (((k : Nat) : Int) + 1) = ((k + 1 : Nat) : Int) by rw [wrap64 (by omega) (by omega)]; omega]
    refine ih (k + 1) h' F (by omega) (by omega) ?_
    rw [List.take_add_one, hx, List.foldl_append]
    exact w1
theorem park_ok {m : TM} {t : Nat} (hh : H h (aW w p W :: aTX p t m :: F)) (hst : m.st ≠ 0) (hw : Wk (m.σ.reads.map Prod.fst)) (hl : m.σ.reads.length < 1000000) (id : Int) :
    Ok (C k_wait_Watch_int_Park [.pointer (some ⟨w, 0, none⟩), .int .i64 id, .pointer (some ⟨t, 0, none⟩)] h) fun v h' => v = .int .i64 (parkM W m id).1 ∧ H h' (aW w p (parkM W m id).2 :: aTX p t m :: F) := by
  refine Ok.le ?_ wait_Watch_int_Park_le
  unfold F_wait_Watch_int_Park
  have hs := MStatus (hh.mv 1 rfl)
  have hs : C k_tl2_Tx_int_Status [.pointer (some ⟨t, 0, none⟩)] h = _ := hs
  simp only [wright_eq hh, Option.bind_some, asB_b, Bool.not_true, cond_f, hs, asI_u8]
  rw [dec_f hst, cond_f]
  refine Ok.le ?_ wait_Watch_int_Park_j6_le
  obtain ⟨r, es, v, mm, l1, l2, l3, l4, l5⟩ := look_W hh id
  simp only [Option.bind_some, l1, l2]
  rw [l4 ?hz]
  case hz => kernel_rfl
  simp only [Option.bind_some, l5]
  unfold parkM
  by_cases h1 : id < 1
  · rw [dec_t h1, cond_t, if_pos h1]
    exact Ok.some ⟨rfl, hh⟩
  rw [dec_f h1, cond_f, if_neg h1]
  cases hf : find id W with
  | some x =>
    simp only [Option.isSome_some, cond_t, if_true]
    exact Ok.some ⟨rfl, hh⟩
  | none =>
    simp only [Option.isSome_none, cond_f, Bool.false_eq_true, if_false, l3]
    by_cases h2 : W.length = 64
    · rw [dec_t (by omega), cond_t, if_pos h2]
      exact Ok.some ⟨rfl, hh⟩
    · rw [dec_f (by omega), cond_f, if_neg h2]
      refine Ok.le ?_ wait_Watch_int_Park_j5_le
      have w1 := mi_new hh
      refine Ok.bind (MReads (w1.mv 2 rfl) hw (by omega)) ?_
      rintro _ h2 ⟨a, c, rfl, w2⟩
      have hlen : m.σ.reads.length = (sortI (m.σ.reads.map Prod.fst)).length := by rw [sortI_len, List.length_map]
      simp only [asS_s, Option.bind_some]
      rw [hlen]
      have w3 : H h2 (aRd a ((sortI (m.σ.reads.map Prod.fst)).flatMap encI) :: aTX p t m :: aMI h.n [] :: aW w p W :: F) := by
        exact (ow_rd w2).pm [0, 1, 2, 3]
      refine Ok.mono (park_loop (m := m) (L := sortI (m.σ.reads.map Prod.fst)) (by rw [← hlen]; exact hl) hf _ 0 h2 F rfl (Nat.zero_le _) (w3.pm [2, 0, 1, 3])) ?_
      rintro v h' ⟨rfl, w4⟩
      exact ⟨rfl, w4⟩
end
end Go.Lg.Tryz

namespace Go.Lg.Tryz
set_option linter.unusedVariables false
set_option linter.unusedSimpArgs false
open Go Go.Proofs
def delAll (L : List Int) (W : List (Int × List (Int × Int))) : List (Int × List (Int × Int)) := L.foldl (fun W i => delW i W) W
section
variable {h h' : AH} {w p q : Nat} {W : List (Int × List (Int × Int))} {cs : List Cel} {clk : Int} {F : List Asr}
theorem new_W (hh : H h (aMem p q cs clk :: F)) (hc : cs ≠ []) : Ok (C k_wait_New_int [.pointer (some ⟨p, 0, none⟩)] h) fun v h' => ∃ w, v = .tuple #[.pointer (some ⟨w, 0, none⟩), .int .i64 0] ∧ H h' (aW w p [] :: aMem p q cs clk :: F) := by
  refine Ok.le ?_ wait_New_int_le
  unfold F_wait_New_int
  have hs := size_eq (mem_at hh)
  have hs : C k_cell_Memory_int_Size [.pointer (some ⟨p, 0, none⟩)] h = _ := hs
  simp only [hs, Option.bind_some, asI_i64]
  have := List.length_pos_iff.mpr hc
  rw [dec_f (by omega), cond_f]
  refine Ok.le ?_ wait_New_int_j1_le
  have w1 := mm_new hh
  have w2 := w1.push (.cells [.pointer (some ⟨p, 0, none⟩), .map (some h.n)] false false 2)
  refine Ok.some ⟨_, rfl, aW_mk (r := h.n) (wl := []) rfl ?_⟩
  have w3 : H _ (Lay [] :: _) := H.cls (L := []) w2
  exact w3.pm [1, 2, 0]
theorem chg_cb {cell : Nat} : Cb1 (sortI (W.map Prod.fst)) (fun x => !goesM W cs x) (Lay [Cs cell [.pointer (some ⟨w, 0, none⟩)] 1, aW w p W, aMem p q cs clk]) k_wait_Watch_int_Changed_1 [.pointer (some ⟨cell, 0, none⟩)] := by
  intro x h G _ hh
  have k := hh.opn_
  refine Ok.le ?_ wait_Watch_int_Changed_1_le
  unfold F_wait_Watch_int_Changed_1
  have hld : h.ldP cell 0 = some (some ⟨w, 0, none⟩) := AH.ldP_of (k.g 0 rfl) rfl
  have hg := goes_ok (w := w) (p := p) (q := q) (W := W) (cs := cs) (clk := clk) (F := Cs cell [.pointer (some ⟨w, 0, none⟩)] 1 :: G) (by
    have := H.u1 (k : H h (Cs cell [.pointer (some ⟨w, 0, none⟩)] 1 :: aW w p W :: aMem p q cs clk :: G))
    exact this.pm [0, 2, 1]) x
  simp only [Option.bind_some, hld, hg, asB_b]
  exact Ok.some ⟨rfl, H.cutE hh⟩
theorem chg_loop {cell : Nat} {a : Option Addr} {c : Nat} {L : List Int} (hL : L.length < 1000000) : ∀ (n k : Nat) (h : AH), L.length - k = n → k ≤ L.length →
    H h (aRd a (L.flatMap encI) :: Cs cell [.pointer (some ⟨w, 0, none⟩)] 1 :: aW w p (delAll (L.take k) W) :: F) →
    Ok (wait_Watch_int_Changed_L1 (some ⟨cell, 0, none⟩) a L.length c a L.length c (L.length : Nat) (k : Nat) h) fun v h' => v = .slice a L.length c ∧ H h' (aRd a (L.flatMap encI) :: aW w p (delAll L W) :: F) := by
  intro n
  induction n with
  | zero =>
    intro k h hn hk hh
    obtain rfl : k = L.length := by omega
    rw [List.take_length] at hh
    refine Ok.le ?_ wait_Watch_int_Changed_L1_le
    refine Ok.le ?_ wait_Watch_int_Changed_j4_le
    rw [dec_f (by omega), cond_f]
    refine Ok.le ?_ wait_Watch_int_Changed_j1_le
    exact Ok.some ⟨rfl, hh.rm 1 rfl⟩
  | succ n ih =>
    intro k h hn hk hh
    have hkl : k < L.length := by omega
    obtain ⟨x, hx⟩ : ∃ x, L[k]? = some x := ⟨_, List.getElem?_eq_getElem hkl⟩
    refine Ok.le ?_ wait_Watch_int_Changed_L1_le
    refine Ok.le ?_ wait_Watch_int_Changed_j4_le
    rw [dec_t (by omega), cond_t]
    refine Ok.le ?_ wait_Watch_int_Changed_j3_le
    obtain ⟨ad, rfl, e1⟩ := rd_int hh.rd hx
    have hld : h.ldP cell 0 = some (some ⟨w, 0, none⟩) := AH.ldP_of (hh.g 1 rfl) rfl
    obtain ⟨r, e2, h', e3, w1⟩ := aW_del (hh.mv 2 rfl) x
    simp only [Option.bind_some, inB_t (show (0 : Int) ≤ (k : Int) by omega) (show (k : Int) < (L.length : Nat) by omega), cond_t, Int.toNat_natCast, e1, hld, e2, e3]
    refine Ok.le ?_ wait_Watch_int_Changed_j2_le
    rw [show IntKind.wrap .i64 (((k : Nat) : Int) + 1) = ((k + 1 : Nat) : Int) by rw [wrap64 (by omega) (by omega)]; omega]
    refine ih (k + 1) h' (by omega) (by omega) ?_
    have e4 : delAll (L.take (k + 1)) W = delW x (delAll (L.take k) W) := by
      unfold delAll
      rw [List.take_add_one, hx, List.foldl_append]; rfl
    rw [e4]
    exact w1.pm [1, 2, 0]
theorem changed_ok (hh : H h (aW w p W :: aMem p q cs clk :: F)) (hw : Wk (W.map Prod.fst)) (hl : W.length ≤ 1000) :
    Ok (C k_wait_Watch_int_Changed [.pointer (some ⟨w, 0, none⟩)] h) fun v h' => ∃ a c L, L = (sortI (W.map Prod.fst)).filter (goesM W cs) ∧ v = .slice a L.length c ∧ H h' (aRd a (L.flatMap encI) :: aW w p (delAll L W) :: aMem p q cs clk :: F) := by
  refine Ok.le ?_ wait_Watch_int_Changed_le
  unfold F_wait_Watch_int_Changed
  have w1 := hh.push (.cells [.pointer (some ⟨w, 0, none⟩)] false false 1)
  have hld : (h.push (.cells [.pointer (some ⟨w, 0, none⟩)] false false 1)).ldP h.n 0 = some (some ⟨w, 0, none⟩) := AH.ldP_of (w1.g 0 rfl) rfl
  simp only [hld, Option.bind_some]
  refine Ok.bind (parked_ok (w1.mv 1 rfl) hw (by omega)) ?_
  rintro _ h2 ⟨a, c, rfl, w2⟩
  simp only [asS_s, Option.bind_some]
  have hlen : W.length = (sortI (W.map Prod.fst)).length := by rw [sortI_len, List.length_map]
  have w3 : H h2 (aOw 1 a W.length c ((sortI (W.map Prod.fst)).flatMap encI) :: Lay [Cs h.n [.pointer (some ⟨w, 0, none⟩)] 1, aW w p W, aMem p q cs clk] :: F) := by
    have w4 : H h2 (Cs h.n [.pointer (some ⟨w, 0, none⟩)] 1 :: aW w p W :: aMem p q cs clk :: aOw 1 a W.length c ((sortI (W.map Prod.fst)).flatMap encI) :: F) := w2.pm [2, 1, 3, 0]
    exact (H.cls (L := [Cs h.n [.pointer (some ⟨w, 0, none⟩)] 1, aW w p W, aMem p q cs clk]) w4).u1
  have hbd : hasBody Tryz.prog k_wait_Watch_int_Changed_1 = true := by kernel_rfl
  refine Ok.bind (deleteI (d := fun x => !goesM W cs x) (I := Lay [Cs h.n [.pointer (some ⟨w, 0, none⟩)] 1, aW w p W, aMem p q cs clk]) hbd chg_cb (by rw [← hlen]; omega) hlen w3) ?_
  have ef : (sortI (W.map Prod.fst)).filter (fun x => !(fun x => !goesM W cs x) x) = (sortI (W.map Prod.fst)).filter (goesM W cs) := by
    apply List.filter_congr; intro x _; simp
  rw [ef]
  rintro _ h3 ⟨rfl, w4⟩
  simp only [asS_s, Option.bind_some]
  have hle : ((sortI (W.map Prod.fst)).filter (goesM W cs)).length ≤ W.length := by rw [hlen]; exact List.length_filter_le _ _
  generalize (sortI (W.map Prod.fst)).filter (goesM W cs) = L at w4 hle
  have w5 : H h3 (aRd a (L.flatMap encI) :: Cs h.n [.pointer (some ⟨w, 0, none⟩)] 1 :: aW w p W :: aMem p q cs clk :: F) := (w4.u1.opn_).pm [3, 0, 1, 2]
  refine Ok.mono (chg_loop (W := W) (by omega) _ 0 h3 rfl (Nat.zero_le _) w5) ?_
  rintro v h' ⟨rfl, w6⟩
  exact ⟨a, c, L, rfl, rfl, w6⟩
end
end Go.Lg.Tryz
