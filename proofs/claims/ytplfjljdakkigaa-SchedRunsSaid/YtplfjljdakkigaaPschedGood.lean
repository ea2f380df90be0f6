/- The scheduler's lists: what a pick leaves right. No memory in sight. -/
import Derived.Test.YtplfjljdakkigaaPschedTask
namespace Go.Lg.Try
set_option linter.unusedVariables false
set_option linter.unusedSimpArgs false
open Go Go.Proofs
def Good (ts : List TD) (line : List Int) : Prop := line.Nodup ∧ ∀ j ∈ line, 1 ≤ j ∧ ∃ x, ts[(j - 1).toNat]? = some x ∧ x.st = 1
theorem pigeon : ∀ (m : Nat) (l : List Nat), l.Nodup → (∀ x ∈ l, x < m) → l.length ≤ m
  | 0, l, _, h => by
    cases l with
    | nil => simp
    | cons a l => have := h a (by simp); omega
  | m + 1, l, hn, h => by
    by_cases hm : m ∈ l
    · have h1 := pigeon m (l.erase m) (hn.erase m) (fun x hx => by
        have h2 := (List.Nodup.mem_erase_iff hn).mp hx
        have := h x h2.2
        have := h2.1
        omega)
      rw [List.length_erase_of_mem hm] at h1
      omega
    · have := pigeon m l hn (fun x hx => by
        have h1 := h x hx
        have : x ≠ m := fun e => hm (e ▸ hx)
        omega)
      omega
theorem mod_self {α : Type} {l : List α} {i : Nat} {x : α} (f : α → α) (h : l[i]? = some x) : (l.modify i f)[i]? = some (f x) := by rw [List.getElem?_modify, h]; simp
theorem mod_ne {α : Type} {l : List α} {i j : Nat} (f : α → α) (h : i ≠ j) : (l.modify i f)[j]? = l[j]? := by rw [List.getElem?_modify]; simp [h]
theorem idx_inj {a b : Int} (ha : 1 ≤ a) (hb : 1 ≤ b) (h : (a - 1).toNat = (b - 1).toNat) : a = b := by omega
theorem nodup_map_on {α β : Type} {f : α → β} : ∀ {l : List α}, (∀ a ∈ l, ∀ b ∈ l, f a = f b → a = b) → l.Nodup → (l.map f).Nodup
  | [], _, _ => by simp
  | a :: l, hi, hn => by
    rw [List.nodup_cons] at hn
    rw [List.map_cons, List.nodup_cons]
    refine ⟨fun hm => ?_, nodup_map_on (fun x hx y hy => hi x (by simp [hx]) y (by simp [hy])) hn.2⟩
    obtain ⟨b, hb, e⟩ := List.mem_map.mp hm
    have := hi b (by simp [hb]) a (by simp) e
    exact hn.1 (this ▸ hb)
theorem Good.len {ts : List TD} {line : List Int} (hg : Good ts line) : line.length ≤ ts.length := by
  have := pigeon ts.length (line.map fun j => (j - 1).toNat) (nodup_map_on (fun a ha b hb e => idx_inj (hg.2 a ha).1 (hg.2 b hb).1 e) hg.1) (fun x hx => by
    obtain ⟨j, hj, rfl⟩ := List.mem_map.mp hx
    obtain ⟨_, x, h1, _⟩ := hg.2 j hj
    exact (List.getElem?_eq_some_iff.mp h1).1)
  simpa using this
theorem Good.both {ts : List TD} {line : List Int} (hg : Good ts line) : line.length + (blkU ts ts.length).length ≤ ts.length := by
  have hb : ∀ i ∈ (List.range ts.length).filter (isB ts), i < ts.length ∧ ∃ x, ts[i]? = some x ∧ x.st = 2 := fun i hi => by
    obtain ⟨h1, h2⟩ := List.mem_filter.mp hi
    have h3 := List.mem_range.mp h1
    refine ⟨h3, _, List.getElem?_eq_getElem h3, ?_⟩
    unfold isB at h2
    rw [List.getElem?_eq_getElem h3] at h2
    simpa using h2
  have := pigeon ts.length ((line.map fun j => (j - 1).toNat) ++ (List.range ts.length).filter (isB ts)) (by
    rw [List.nodup_append]
    refine ⟨nodup_map_on (fun a ha b hb e => idx_inj (hg.2 a ha).1 (hg.2 b hb).1 e) hg.1, List.nodup_range.sublist List.filter_sublist, fun a ha b hb' e => ?_⟩
    subst e
    obtain ⟨j, hj, rfl⟩ := List.mem_map.mp ha
    obtain ⟨_, x, h1, h2⟩ := hg.2 j hj
    obtain ⟨_, y, h3, h4⟩ := hb _ hb'
    rw [h1] at h3
    obtain rfl := Option.some.inj h3
    omega) (fun x hx => by
    rcases List.mem_append.mp hx with hx | hx
    · obtain ⟨j, hj, rfl⟩ := List.mem_map.mp hx
      obtain ⟨_, x, h1, _⟩ := hg.2 j hj
      exact (List.getElem?_eq_some_iff.mp h1).1
    · exact (hb x hx).1)
  simpa [blkU] using this
/-- while the step of id goes on: id is not on the line -/
def Mid (ts : List TD) (line : List Int) (id : Int) : Prop := Good ts line ∧ id ∉ line ∧ 1 ≤ id ∧ (id - 1).toNat < ts.length
theorem Good.set {ts : List TD} {line : List Int} (hg : Good ts line) {i : Nat} {x y : TD} (hx : ts[i]? = some x) (h : x.st = 1 → y.st = 1) : Good (ts.set i y) line := by
  refine ⟨hg.1, fun j hj => ?_⟩
  obtain ⟨h1, z, h2, h3⟩ := hg.2 j hj
  refine ⟨h1, ?_⟩
  by_cases e : i = (j - 1).toNat
  · subst e
    rw [hx] at h2
    obtain rfl := Option.some.inj h2
    exact ⟨y, List.getElem?_set_self (List.getElem?_eq_some_iff.mp hx).1, h h3⟩
  · exact ⟨z, by rw [List.getElem?_set_ne e]; exact h2, h3⟩
theorem Good.mid {ts : List TD} {line : List Int} (hg : Good ts line) {k : Nat} {id : Int} (hk : line[k]? = some id) {x y : TD} (hx : ts[(id - 1).toNat]? = some x) (hy : y.st = x.st) : Mid (ts.set (id - 1).toNat y) (line.eraseIdx k) id := by
  have hkl := (List.getElem?_eq_some_iff.mp hk).1
  have hsub : ∀ j ∈ line.eraseIdx k, j ∈ line := fun j hj => List.mem_of_mem_eraseIdx hj
  have hid := hg.2 id (List.mem_of_getElem? hk)
  refine ⟨Good.set ⟨hg.1.sublist (List.eraseIdx_sublist _ _), fun j hj => hg.2 j (hsub j hj)⟩ hx (fun e => by rw [hy]; exact e), fun hm => ?_, hid.1, by rw [List.length_set]; exact (List.getElem?_eq_some_iff.mp hx).1⟩
  obtain ⟨j, hj⟩ := List.getElem?_of_mem hm
  rw [List.getElem?_eraseIdx] at hj
  by_cases e : j < k
  · rw [if_pos e] at hj
    have := (List.getElem?_inj (by omega) hg.1).mp (hj.trans hk.symm)
    omega
  · rw [if_neg e] at hj
    have := (List.getElem?_inj hkl hg.1).mp (hk.trans hj.symm)
    omega
theorem good_push {ts : List TD} {line : List Int} (hg : Good ts line) {j : Int} (hj : j ∉ line) (h1 : 1 ≤ j) (h2 : ∃ x, ts[(j - 1).toNat]? = some x ∧ x.st = 1) : Good ts (line ++ [j]) := by
  refine ⟨?_, fun i hi => ?_⟩
  · rw [List.nodup_append]
    exact ⟨hg.1, by simp, fun a ha b hb => by simp at hb; subst hb; exact fun e => hj (e ▸ ha)⟩
  · rcases List.mem_append.mp hi with hi | hi
    · exact hg.2 i hi
    · simp at hi; subst hi; exact ⟨h1, h2⟩
theorem Mid.wake {ts : List TD} {line : List Int} {id : Int} (hm : Mid ts line id) (w : Bool) (j : Int) : Mid (wakeM ts line id w j).2.1 (wakeM ts line id w j).2.2.1 id := by
  unfold wakeM
  by_cases a : 1 ≤ j ∧ j ≤ ts.length
  · rw [if_pos a]
    by_cases b : j = id
    · rw [if_pos b]; exact hm
    · rw [if_neg b]
      cases hx : ts[(j - 1).toNat]? with
      | none => exact hm
      | some x =>
        simp only
        by_cases c : x.st = 2
        · rw [if_pos c]
          have hjl : j ∉ line := fun h => by
            obtain ⟨_, y, h1, h2⟩ := hm.1.2 j h
            rw [hx] at h1
            obtain rfl := Option.some.inj h1
            omega
          have hlt := (List.getElem?_eq_some_iff.mp hx).1
          refine ⟨good_push (hm.1.set hx (fun _ => rfl)) hjl a.1 ⟨_, List.getElem?_set_self hlt, rfl⟩, fun h => ?_, hm.2.2.1, by rw [List.length_set]; exact hm.2.2.2⟩
          rcases List.mem_append.mp h with h | h
          · exact hm.2.1 h
          · simp at h; exact b h.symm
        · rw [if_neg c]; exact hm
  · rw [if_neg a]; exact hm
theorem Mid.aft {ts : List TD} {line : List Int} {id : Int} (hm : Mid ts line id) (w : Bool) (d : DoR) : Mid (aft ts line id w d).1 (aft ts line id w d).2.1 id := by
  unfold Go.Lg.Try.aft
  by_cases c : d.wake = 0
  · rw [if_pos c]; exact hm
  · rw [if_neg c]; exact hm.wake w d.wake
theorem Mid.fin {ts : List TD} {line : List Int} {id : Int} (hm : Mid ts line id) (w : Bool) (st : Int) : Good (finM ts line w id st).2.1 (finM ts line w id st).2.2 ∧ stOf (finM ts line w id st).2.1 id = (finM ts line w id st).1 := by
  obtain ⟨x, hx⟩ : ∃ x, ts[(id - 1).toNat]? = some x := ⟨_, List.getElem?_eq_getElem hm.2.2.2⟩
  have hlt := hm.2.2.2
  have hle : id ≤ (ts.length : Int) := by have := hm.2.2.1; omega
  have hst : ∀ (y : Int), stOf (ts.modify (id - 1).toNat fun x => { x with st := y }) id = y := fun y => by
    unfold stOf
    rw [if_pos ⟨hm.2.2.1, by rw [List.length_modify]; exact hle⟩, mod_self _ hx]
  have hkeep : ∀ (y : Int), Good (ts.modify (id - 1).toNat fun x => { x with st := y }) line := fun y => by
    refine ⟨hm.1.1, fun j hj => ?_⟩
    obtain ⟨h1, z, h2, h3⟩ := hm.1.2 j hj
    refine ⟨h1, z, ?_, h3⟩
    have hne : (id - 1).toNat ≠ (j - 1).toNat := fun e => by
      have := idx_inj hm.2.2.1 h1 e
      subst this
      exact hm.2.1 hj
    rw [mod_ne _ hne]; exact h2
  unfold finM
  by_cases c : st = 1 ∨ (st = 2 ∧ w = true)
  · rw [if_pos c]
    refine ⟨good_push (hkeep 1) hm.2.1 hm.2.2.1 ⟨{ x with st := 1 }, ?_, rfl⟩, hst 1⟩
    exact mod_self _ hx
  · rw [if_neg c]
    by_cases e : st = 2
    · rw [if_pos e]; exact ⟨hkeep 2, hst 2⟩
    · rw [if_neg e]; exact ⟨hkeep 3, hst 3⟩
/-- all but the states of the tasks -/
def tn (ts : List TD) : List (Option (TypeId × Value) × Int) := ts.map fun x => (x.t, x.n)
theorem tn_set {ts : List TD} {i : Nat} {x : TD} (hx : ts[i]? = some x) (y : Int) : tn (ts.set i { x with st := y }) = tn ts := by
  unfold tn
  apply List.ext_getElem?
  intro k
  have hil : i < ts.length := (List.getElem?_eq_some_iff.mp hx).1
  by_cases e : i = k
  · subst e; rw [List.map_set, List.getElem?_set_self (by simpa using hil)]; simp [hx]
  · simp [List.getElem?_set_ne e]
theorem tn_modify (ts : List TD) (i : Nat) (y : Int) : tn (ts.modify i fun x => { x with st := y }) = tn ts := by
  unfold tn
  apply List.ext_getElem?
  intro k
  rw [List.getElem?_map, List.getElem?_map, List.getElem?_modify]
  cases ts[k]? with
  | none => simp
  | some x => by_cases e : i = k <;> simp [e]
theorem tn_aft (ts : List TD) (line : List Int) (id : Int) (w : Bool) (d : DoR) : tn (aft ts line id w d).1 = tn ts := by
  unfold aft
  by_cases c : d.wake = 0
  · rw [if_pos c]
  · rw [if_neg c]
    unfold wakeM
    split
    · split
      · rfl
      · split
        · rfl
        · rename_i x hx
          split
          · exact tn_set hx 1
          · rfl
    · rfl
theorem tn_fin (ts : List TD) (line : List Int) (w : Bool) (id st : Int) : tn (finM ts line w id st).2.1 = tn ts := by
  unfold finM
  split
  · exact tn_modify _ _ _
  · split <;> exact tn_modify _ _ _
end Go.Lg.Try
