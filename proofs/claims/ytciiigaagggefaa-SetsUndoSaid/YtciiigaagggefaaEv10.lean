/- Soundness of the evaluator. Part 10: appends. -/
import Derived.Test.YtciiigaagggefaaEv9
namespace Go.Lg
open Go

theorem ldRow_inv {h : AH} {b o n : Nat} {l : List Value} (hl : ldRow h b o n = some l) : ∃ c op ro esz, h.get b = some (.cells c op ro esz) ∧ o + n ≤ c.length ∧ l = (c.drop o).take n := by
  unfold ldRow at hl
  split at hl
  · rename_i c op ro esz hb
    cases hc : Nat.ble (o + n) c.length with
    | false => rw [hc, cond_false] at hl; cases hl
    | true =>
      rw [hc, cond_true] at hl
      exact ⟨c, op, ro, esz, hb, Nat.le_of_ble_eq_true hc, (Option.some.inj hl).symm⟩
  · cases hl

/-- a row that is read, in the world -/
theorem ldRow_rel {φ : Emb} {h : AH} {w : World} (hr : HRel φ h w) {b o n : Nat} {t : Tgt} (ht : φ b = some t) {l : List Value} (hl : ldRow h b o n = some l) :
    ∃ cs, VRs φ l cs ∧ l.length = n ∧ (∀ (i : Nat) (c : Value), cs[i]? = some c → w.cell? ⟨t.blk, t.sh + o + i, none⟩ = some c) ∧ l.all cellOk = true := by
  obtain ⟨c, op, ro, esz, hb, hle, rfl⟩ := ldRow_inv hl
  have hget : ∀ (i : Nat) (v : Value), ((c.drop o).take n)[i]? = some v → h.ld b (o + i) = some v := by
    intro i v hv
    simp only [List.getElem?_take, List.getElem?_drop] at hv
    split at hv
    · simp only [AH.ld, hb]; exact hv
    · cases hv
  obtain ⟨cs, h1, h2, _⟩ := row_rel hr ht hget
  refine ⟨cs, h1, by simp; omega, h2, ?_⟩
  obtain ⟨t', _, _, _, _, _, hcells⟩ := hr.cells b c op ro esz hb
  rw [List.all_eq_true]
  intro v hv
  obtain ⟨i, hi⟩ := List.mem_iff_getElem?.1 hv
  simp only [List.getElem?_take, List.getElem?_drop] at hi
  split at hi
  · exact (hcells (o + i) v hi).1
  · cases hi

theorem run_firstCells_at {P : Program} {w : World} {size n len cap : Nat} {b : Addr} {cs : List Value} (hl : cs.length = n * size) (hb : b.spot = none)
    (h : ∀ (i : Nat) (c : Value), cs[i]? = some c → w.cell? ⟨b.block, b.off + i, none⟩ = some c) : (Builtin.firstCells size n (.slice (some b) len cap)).run P w = .ok cs.toArray w := by
  refine run_firstCells_some (P := P) w size n b len cap cs hl fun j v hj => ?_
  obtain ⟨bb, bo, bs⟩ := b
  simp only at hb
  subst hb
  rw [add_lit]
  exact h j v hj

/-- what is appended -/
theorem newCells_rel {P : Program} {φ : Emb} {h : AH} {w : World} (hr : HRel φ h w) {size n : Nat} {x x' : Value} {l : List Value} (hx : VR φ x x') (hl : newCells h size x = some (n, l)) (hlen : l.length = n * size) :
    ∃ cs, VRs φ l cs ∧ l.all cellOk = true ∧ (∀ w2 : World, (∀ a, w2.cell? a = w.cell? a) → (Builtin.firstCells size n x').run P w2 = .ok cs.toArray w2) ∧ ∀ w2, (Builtin.lenOf x').run P w2 = .ok n w2 := by
  unfold newCells at hl
  split at hl
  · rename_i a n' cap
    simp only [Option.bind_eq_some_iff] at hl
    obtain ⟨l', h1, h2⟩ := hl
    simp only [Option.some.injEq, Prod.mk.injEq] at h2
    obtain ⟨rfl, rfl⟩ := h2
    rcases vr_slice hx with ⟨t, a', hφ, hro, hsp, rfl, rfl, rfl⟩ | ⟨t, ra, c', hφ, hsp, rfl, hcase⟩
    · obtain ⟨cs, g1, g2, g3, g4⟩ := ldRow_rel hr hφ h1
      have hc0 : cs = [] := by apply List.eq_nil_of_length_eq_zero; rw [← g1.length, g2]; simp
      subst hc0
      exact ⟨[], g1, g4, fun w2 hw2 => run_firstCells_some (P := P) w2 size 0 a' 0 0 [] (by simp) (fun j v hj => by simp at hj), fun w2 => by simp [Builtin.lenOf]⟩
    obtain ⟨cs, g1, g2, g3, g4⟩ := ldRow_rel hr hφ h1
    refine ⟨cs, g1, g4, fun w2 hw2 => ?_, fun w2 => by simp [Builtin.lenOf]⟩
    refine run_firstCells_at (by rw [← g1.length]; exact g2) rfl fun i c hc => ?_
    have hra : ra = t.sh + a.off := by
      rcases hcase with ⟨_, _, h | ⟨h, _⟩⟩ | ⟨_, _, _, h | ⟨h, _⟩⟩
      · exact h
      · subst h
        have : cs = [] := by apply List.eq_nil_of_length_eq_zero; rw [← g1.length, g2]; simp
        subst this; simp at hc
      · exact h
      · subst h
        have : cs = [] := by apply List.eq_nil_of_length_eq_zero; rw [← g1.length, g2]; simp
        subst this; simp at hc
    subst hra
    rw [hw2]
    exact g3 i c hc
  · rename_i n' cap
    cases hb : Nat.beq n' 0 with
    | false => rw [hb, cond_false] at hl; cases hl
    | true =>
      rw [hb, cond_true] at hl
      simp only [Option.some.injEq, Prod.mk.injEq] at hl
      obtain ⟨rfl, rfl⟩ := hl
      obtain ⟨rfl, rfl, rfl⟩ := vr_sliceN hx
      exact ⟨[], .nil, rfl, fun w2 _ => by simp [Builtin.firstCells], fun w2 => by simp [Builtin.lenOf]⟩
  · rename_i s
    simp only [Option.some.injEq, Prod.mk.injEq] at hl
    obtain ⟨rfl, rfl⟩ := hl
    obtain rfl := vr_string hx
    refine ⟨s.data.toList.map fun b => .int .u8 b.toNat, ?_, ?_, fun w2 _ => ?_, fun w2 => by simp [Builtin.lenOf]⟩
    · exact flats_VRs (by rw [List.all_eq_true]; intro v hv; obtain ⟨b, _, rfl⟩ := List.mem_map.1 hv; rfl)
    · rw [List.all_eq_true]; intro v hv; obtain ⟨b, _, rfl⟩ := List.mem_map.1 hv; rfl
    · have e : s.extract 0 s.data.toList.length = s := by
        apply ByteArray.ext
        apply Array.ext'
        rw [Lib.extract_data]
        simp [List.take_of_length_le]
      simp only [Builtin.firstCells, e, Sem.run_pure]
      congr 1
      apply Array.ext'
      simp
  · cases hl

section real
variable {P : Program} {w : World} {t tx ty e : TypeId} {dx : TypeDesc} {i : TypeInfo} {z : Value} {base : Option Addr} {sLen sCap n : Nat} {x : Value} {cs : List Value}

/-- the model's append where there is room -/
theorem run_append_in (hd : P.underlying t = some (.slice e)) (hdx : P.underlying tx = some dx) (hni : ∀ k, dx ≠ .int k) (hi : P.info? e = some i)
    (hlen : (Builtin.lenOf x).run P w = .ok n w) (hnew : (Builtin.firstCells i.size n x).run P w = .ok cs.toArray w) (hroom : sLen + n ≤ sCap) {w' : World}
    (hst : ∀ a, base = some a → (storeCells (a.add (sLen * i.size)) cs).run P w = .ok () w') (hnil : base = none → w' = w) :
    (Builtin.append_ #[t, tx] ty #[.slice base sLen sCap, x]).run P w = .ok (.slice base (sLen + n) sCap) w' := by
  cases base with
  | none =>
    obtain rfl := hnil rfl
    simp [Builtin.append_, run_underlying' hd, run_underlying' hdx, run_sizeOf' hi]
    simp [hlen, hnew, hroom]
  | some a =>
    have := hst a rfl
    simp [Builtin.append_, run_underlying' hd, run_underlying' hdx, run_sizeOf' hi]
    simp [hlen, hnew, hroom, this]

/-- the model's append where there is none -/
theorem run_append_new {olds : List Value} (hd : P.underlying t = some (.slice e)) (hdx : P.underlying tx = some dx) (hni : ∀ k, dx ≠ .int k) (hi : P.info? e = some i) (hz : i.zero = some z)
    (hlen : (Builtin.lenOf x).run P w = .ok n w) (hnew : (Builtin.firstCells i.size n x).run P w.drew = .ok cs.toArray w.drew) (hold : (Builtin.firstCells i.size sLen (.slice base sLen sCap)).run P w.drew = .ok olds.toArray w.drew)
    (hroom : sCap < sLen + n) (hbytes : (sLen + n) * i.bytes ≤ 1099511627776) (hsm : sLen + n ≤ 1099511627776) :
    (Builtin.append_ #[t, tx] ty #[.slice base sLen sCap, x]).run P w =
      .ok (.slice (some ⟨w.heap.size, 0, none⟩) (sLen + n) (grownCap w (sLen + n) sCap e))
        (w.drew.alloc (.cells (olds ++ cs ++ (Builtin.zeroCells z.cells (grownCap w (sLen + n) sCap e - (sLen + n))).toList).toArray e)) := by
  have hn : ¬ (sLen + n ≤ sCap) := by omega
  have hfit := growslice_fits (need := sLen + n) (old := sCap) (bytes := i.bytes) hroom (by omega)
  have h63' : ¬ (9223372036854775807 < ((sLen : Int) + (n : Int))) := by omega
  have h48' : ¬ (281474976710656 < Builtin.nextslicecap (sLen + n) sCap * i.bytes) := by omega
  simp [Builtin.append_, run_underlying' hd, run_underlying' hdx, run_sizeOf' hi]
  simp [hlen, hn, h63', h48', run_typeInfo' hi, Question.forced, hnew, hold, zeroValue, hz, newRow, grownCap]
  congr 2
  apply Array.ext'
  simp
end real
end Go.Lg
