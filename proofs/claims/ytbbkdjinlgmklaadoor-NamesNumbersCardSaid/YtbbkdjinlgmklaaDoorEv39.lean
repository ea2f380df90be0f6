/- Soundness of the evaluator. Part 39: functions of the library on strings, by the kit's contracts: Index and Count of one byte, Join, IndexFunc. -/
import Derived.Test.YtbbkdjinlgmklaaDoorEv38
import Derived.Shelf.Strings.OnBuilder
import Derived.Shelf.Strings.Count
import Derived.Shelf.Strings.Search3
import Derived.Shelf.GgClosure.StringsIndexFuncTop
namespace Go.Lg
open Go
open Go.RowKit (Below)
set_option linter.unusedVariables false
set_option linter.unusedSimpArgs false

/-- a function that is answered by a contract -/
def onF (k : Nat) (g : List Value → AH → Res) : Over := fun f args h => cond (Nat.beq f k) (g args h) none
theorem onF_ok {P : Program} {k : Nat} {g : List Value → AH → Res} (hk : plainF P k = false)
    (hg : ∀ args h r, g args h = some r → ∀ (φ : Emb) (w : World) (cs : List Value), HRel φ h w → VRs φ args cs → Calls P k cs.toArray w fun e w' => ∃ φ' c, e = .returned c ∧ Good φ w r.2 w' φ' ∧ VR φ' r.1 c) : OvOK P (onF k g) := by
  intro f args h r hr
  unfold onF at hr
  cases hf : Nat.beq f k with
  | false => rw [hf] at hr; cases hr
  | true =>
    obtain rfl := Nat.eq_of_beq_eq_true hf
    rw [hf] at hr
    intro φ w cs hrel hvs
    exact ⟨hg args h r hr φ w cs hrel hvs, fun hp => by rw [hk] at hp; cases hp⟩
theorem Good.below {φ : Emb} {h : AH} {w w' : World} (hr : HRel φ h w) (hb : Below w.heap.size w w') : Good φ w h w' φ :=
  ⟨.refl _ _, ⟨hb.os, hb.tape, hb.output, hb.size, fun B hB _ => hb.block B hB⟩, hr.heap_same hb.size fun B hB => hb.block B hB⟩

def ixB : List UInt8 → UInt8 → Nat → Int
  | [], _, _ => -1
  | b :: l, c, k => cond (b == c) (k : Int) (ixB l c (k + 1))
theorem ixB_eq : ∀ (l : List UInt8) (c : UInt8) (k : Nat), ixB l c k = if Lib.indexByte l c == -1 then -1 else Lib.indexByte l c + k
  | [], c, k => rfl
  | b :: l, c, k => by
    have hg := Lib.indexByte_ge l c
    unfold ixB Lib.indexByte
    cases hb : b == c with
    | true => simp
    | false =>
      rw [cond_false, ixB_eq l c (k + 1)]
      by_cases h : Lib.indexByte l c = -1
      · simp [h]
      · have h2 : ¬ Lib.indexByte l c + 1 = -1 := by omega
        simp only [beq_iff_eq, h, if_false, h2, Bool.false_eq_true]
        push_cast; omega
theorem ixB_zero (l : List UInt8) (c : UInt8) : ixB l c 0 = Lib.indexByte l c := by
  rw [ixB_eq]
  by_cases h : Lib.indexByte l c = -1
  · simp [h]
  · simp [h]
/-- runes that no name has -/
def badR (r : Nat) : Bool := Nat.beq r 0 || Nat.beq r 47
def rowStr : List Value → Option (List ByteArray)
  | [] => some []
  | .string s :: vs => (rowStr vs).bind fun l => some (s :: l)
  | _ :: _ => none
theorem rowStr_get : ∀ {vs : List Value} {l : List ByteArray}, rowStr vs = some l → vs = l.map Value.string
  | [], l, h => by simp only [rowStr, Option.some.injEq] at h; subst h; rfl
  | v :: vs, l, h => by
    unfold rowStr at h
    split at h
    · cases h; rename_i e; cases e
    · rename_i s vs' e
      cases e
      simp only [Option.bind_eq_some_iff] at h
      obtain ⟨m, hm, h⟩ := h
      obtain rfl := Option.some.inj h
      rw [rowStr_get hm]; rfl
    · cases h
theorem rowStr_of : ∀ l : List ByteArray, rowStr (l.map Value.string) = some l
  | [] => rfl
  | x :: l => by simp only [List.map_cons, rowStr, rowStr_of l, Option.bind_some]
def joinL (xs : List ByteArray) (sep : ByteArray) : List UInt8 := Lib.join (xs.map (·.data.toList)) sep.data.toList
def indexF (args : List Value) (h : AH) : Res := match args with
  | [.string s, .string t] => match t.data.toList with
    | [c] => some (.int .i64 (ixB s.data.toList c 0), h)
    | _ => none
  | _ => none
def countF (args : List Value) (h : AH) : Res := match args with
  | [.string s, .string t] => match t.data.toList with
    | [c] => some (.int .i64 (Lib.countByte s.data.toList c : Nat), h)
    | _ => none
  | _ => none
def joinF (args : List Value) (h : AH) : Res := match args with
  | [.slice a n c, .string sep] => cond (Nat.beq n 0) (some (.string ⟨#[]⟩, h)) (match a with
    | some ⟨b, o, none⟩ => (ldRow h b o n).bind fun row => (rowStr row).bind fun xs =>
      cond (Nat.ble n c && (Nat.ble n 140737488355328 && Nat.ble (joinL xs sep).length 140737488355328)) (some (.string ⟨(joinL xs sep).toArray⟩, h)) none
    | _ => none)
  | _ => none
def idxF (kg : Nat) (p : Nat → Bool) (args : List Value) (h : AH) : Res := match args with
  | [.string s, .func (.func g) ⟨[]⟩ ⟨[]⟩] => cond (Nat.beq g kg) (some (.int .i64 (Lib.idxFunc p true s), h)) none
  | _ => none

theorem vrs2 {φ : Emb} {a b : Value} {cs : List Value} (h : VRs φ [a, b] cs) : ∃ x y, cs = [x, y] ∧ VR φ a x ∧ VR φ b y := by
  cases h with
  | cons h1 h2 => cases h2 with
    | cons h3 h4 => cases h4; exact ⟨_, _, rfl, h1, h3⟩
theorem vr_str {φ : Emb} {s : ByteArray} {v : Value} (h : VR φ (.string s) v) : v = .string s := by cases h; rfl
theorem vr_fn00 {φ : Emb} {g : FuncId} {v : Value} (h : VR φ (.func (.func g) ⟨[]⟩ ⟨[]⟩) v) : v = .func (.func g) #[] #[] := by
  cases h with
  | @func _ _ _ as' bs' s1 r1 s2 r2 =>
    have ea : as' = #[] := Array.eq_empty_of_size_eq_zero (by rw [← s1]; rfl)
    have eb : bs' = #[] := Array.eq_empty_of_size_eq_zero (by rw [← s2]; rfl)
    rw [ea, eb]
theorem ba_of_list {t : ByteArray} {c : UInt8} (h : t.data.toList = [c]) : t = ⟨#[c]⟩ := by
  obtain ⟨d⟩ := t
  congr 1
  exact Array.toList_inj.mp h

theorem index_ok {P : Program} {k : Nat} (hk : plainF P k = false) (hL : ∃ ρ, Proofs.Lays.n143 P ρ ∧ ρ.f 143 = k) : OvOK P (onF k indexF) := by
  obtain ⟨ρ, L, rfl⟩ := hL
  refine onF_ok hk fun args h r hr φ w cs hrel hvs => ?_
  unfold indexF at hr
  split at hr
  · rename_i s t
    split at hr
    · rename_i c hc
      obtain rfl := Option.some.inj hr
      obtain rfl := ba_of_list hc
      obtain ⟨x, y, rfl, h1, h2⟩ := vrs2 hvs
      obtain rfl := vr_str h1
      obtain rfl := vr_str h2
      refine (Proofs.Any.strings_Index_one L s c w).mono ?_
      rintro e w' ⟨rfl, rfl⟩
      exact ⟨φ, _, rfl, .refl hrel, by rw [ixB_zero]; exact .int _ _⟩
    · cases hr
  · cases hr
theorem count_ok {P : Program} {k : Nat} (hk : plainF P k = false) (hL : ∃ ρ, Proofs.Lays.n138 P ρ ∧ ρ.f 138 = k) : OvOK P (onF k countF) := by
  obtain ⟨ρ, L, rfl⟩ := hL
  refine onF_ok hk fun args h r hr φ w cs hrel hvs => ?_
  unfold countF at hr
  split at hr
  · rename_i s t
    split at hr
    · rename_i c hc
      obtain rfl := Option.some.inj hr
      obtain rfl := ba_of_list hc
      obtain ⟨x, y, rfl, h1, h2⟩ := vrs2 hvs
      obtain rfl := vr_str h1
      obtain rfl := vr_str h2
      refine (Proofs.Any.strings_Count_one L s c w).mono ?_
      rintro e w' ⟨rfl, rfl⟩
      exact ⟨φ, _, rfl, .refl hrel, .int _ _⟩
    · cases hr
  · cases hr
theorem idx_ok {P : Program} {k kg : Nat} {p : Nat → Bool} (hk : plainF P k = false) (hL : ∃ ρ, Proofs.LaysGw.n15 P ρ ∧ ρ.f 15 = k) (eg : ∀ args w, (callFunc kg args).run P w = .ok (.enter kg args) w)
    (hp : ∀ (r : Nat) (W : World), Calls P kg #[.int .i32 (r : Int)] W fun e w' => e = .returned (.bool (p r)) ∧ ∃ q, w' = W.drewN q) : OvOK P (onF k (idxF kg p)) := by
  obtain ⟨ρ, L, rfl⟩ := hL
  refine onF_ok hk fun args h r hr φ w cs hrel hvs => ?_
  unfold idxF at hr
  split at hr
  · rename_i s g
    cases hg : Nat.beq g kg with
    | false => rw [hg] at hr; cases hr
    | true =>
      obtain rfl := Nat.eq_of_beq_eq_true hg
      rw [hg] at hr
      obtain rfl := Option.some.inj hr
      obtain ⟨x, y, rfl, h1, h2⟩ := vrs2 hvs
      obtain rfl := vr_str h1
      obtain rfl := vr_fn00 h2
      refine (Proofs.Any.strings_IndexFunc L g #[] eg p s w fun W x _ => ?_).mono ?_
      · exact hp x W
      · rintro e w' ⟨rfl, hb⟩
        exact ⟨φ, _, rfl, .below hrel hb, .int _ _⟩
  · cases hr
theorem join_ok {P : Program} {k : Nat} (hk : plainF P k = false) (hL : ∃ ρ, Proofs.Lays.n156 P ρ ∧ Proofs.Builder.Extra P ρ ∧ ρ.f 156 = k) : OvOK P (onF k joinF) := by
  obtain ⟨ρ, L, X, rfl⟩ := hL
  refine onF_ok hk fun args h r hr φ w cs hrel hvs => ?_
  unfold joinF at hr
  split at hr
  · rename_i a n c sep
    obtain ⟨x, y, rfl, h1, h2⟩ := vrs2 hvs
    obtain rfl := vr_str h2
    cases hn : Nat.beq n 0 with
    | true =>
      obtain rfl := Nat.eq_of_beq_eq_true hn
      rw [hn] at hr
      obtain rfl := Option.some.inj hr
      obtain ⟨a', c', rfl⟩ : ∃ a' c', x = .slice a' 0 c' := by cases h1 <;> exact ⟨_, _, rfl⟩
      refine (Proofs.Any.strings_Join_none L X a' c' sep w).mono ?_
      rintro e w' ⟨rfl, rfl⟩
      exact ⟨φ, _, rfl, .refl hrel, .string _⟩
    | false =>
      rw [hn, cond_false] at hr
      split at hr
      · rename_i b o
        simp only [Option.bind_eq_some_iff] at hr
        obtain ⟨row, hrow, xs, hxs, hr⟩ := hr
        cases hc : (Nat.ble n c && (Nat.ble n 140737488355328 && Nat.ble (joinL xs sep).length 140737488355328)) with
        | false => rw [hc] at hr; cases hr
        | true =>
          rw [hc] at hr
          obtain rfl := Option.some.inj hr
          simp only [Bool.and_eq_true] at hc
          obtain ⟨hc1, hc2, hc3⟩ := hc
          have hc1 := Nat.le_of_ble_eq_true hc1
          have hc2 := Nat.le_of_ble_eq_true hc2
          have hc3 := Nat.le_of_ble_eq_true hc3
          have hn0 : n ≠ 0 := fun e => by subst e; cases hn
          obtain rfl := rowStr_get hxs
          have key : ∃ t c', φ b = some t ∧ n ≤ c' ∧ x = .slice (some ⟨t.blk, t.sh + o, none⟩) n c' := by
            cases h1 with
            | slice h3 h4 => exact ⟨_, _, h3, hc1, rfl⟩
            | sliceO h3 h4 h5 => exact ⟨_, _, h3, h5, rfl⟩
            | sliceE h3 h4 => exact absurd rfl hn0
            | sliceZ h3 => exact absurd rfl hn0
            | sliceV h3 h4 => exact absurd rfl hn0
          obtain ⟨t, c', ht, hle, rfl⟩ := key
          obtain ⟨cc, op, ro, esz, hb, hlen, hl⟩ := ldRow_inv hrow
          obtain ⟨t', g1, g2, g3, g4, g5, g6⟩ := hrel.cells b cc op ro esz hb
          rw [ht] at g1
          obtain rfl := Option.some.inj g1
          have hxl : xs.length = n := by
            have := congrArg List.length hl
            rw [List.length_map, List.length_take, List.length_drop] at this
            omega
          have hcells : ∀ (j : Nat) x, xs[j]? = some x → w.cell? ⟨t.blk, (t.sh + o) + j, none⟩ = some (.string x) := by
            intro j x hx
            have h5 : cc[o + j]? = some (.string x) := by
              have : (xs.map Value.string)[j]? = some (.string x) := by rw [List.getElem?_map, hx]; rfl
              rw [hl, List.getElem?_take] at this
              split at this
              · rw [List.getElem?_drop] at this; exact this
              · cases this
            obtain ⟨_, v', h7, h8⟩ := g6 _ _ h5
            obtain rfl := vr_str h8
            rw [← h7, Nat.add_assoc]
          subst hxl
          refine (Proofs.Any.strings_Join L X t.blk (t.sh + o) c' xs sep w hcells (hrel.blkLt b t ht) hc2 hle hc3).mono ?_
          rintro e w' ⟨rfl, hbw⟩
          exact ⟨φ, _, rfl, .below hrel hbw, .string _⟩
      · cases hr
  · cases hr
end Go.Lg
