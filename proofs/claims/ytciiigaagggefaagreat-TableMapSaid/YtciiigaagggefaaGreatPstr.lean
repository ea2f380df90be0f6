/- slices.Insert of one element, walked at this seat. -/
import Derived.Test.YtciiigaagggefaaGreatF0
import Derived.Test.YtciiigaagggefaaGreatEv49
import Derived.Shelf.Spec.SlicesInsertGrow
import Derived.Ground.NamesProg
import Derived.Shelf.Lay
import Derived.Lib.ReflectliteSlice
import Derived.Deep.LoopGhost
import Derived.Laws.Externs
import Derived.WalkKit
import Derived.Shelf.RegionOpenPlain
namespace Go.Proofs
open Go.Shelf Go.RowKit Go.Lib
set_option linter.unusedVariables false
set_option linter.unusedSimpArgs false

shelf_lay Lays.n106 Nm 106 at Tryz as Tryz.cmpLs
theorem Tryz.ins_info : ∃ i, Tryz.prog.info? 28 = some i ∧ i.size = 3 ∧ i.zero.isSome = true ∧ i.bytes = 40 ∧ (∀ z, i.zero = some z → z.cells.size = 3) := by
  have h : (match Tryz.prog.info? 28 with | some i => Nat.beq i.size 3 && Nat.beq i.bytes 40 && (match i.zero with | some z => Nat.beq z.cells.size 3 | none => false) | none => false) = true := by kernel_rfl
  revert h
  split
  · rename_i i hi
    intro h
    simp only [Bool.and_eq_true] at h
    obtain ⟨⟨h1, h3⟩, h2⟩ := h
    refine ⟨i, hi, Nat.eq_of_beq_eq_true h1, ?_, Nat.eq_of_beq_eq_true h3, fun z hz => ?_⟩
    · cases hz : i.zero with
      | none => rw [hz] at h2; cases h2
      | some z => rfl
    · rw [hz] at h2; exact Nat.eq_of_beq_eq_true h2
  · intro h; cases h
theorem Tryz.ins_sz : (Tryz.prog.info? 28).map (·.size) = some 3 := by
  obtain ⟨i, h1, h2, _⟩ := Tryz.ins_info
  rw [h1]; simp [h2]
theorem Tryz.ins_sizeOf (w : World) : (Go.sizeOf 28).run Tryz.prog w = .ok 3 w := by
  obtain ⟨i, h1, h2, _⟩ := Tryz.ins_info
  rw [Go.Lg.run_sizeOf' h1, h2]
theorem Tryz.ins_over (w : World) (a b : Addr) (la ca lb cb : Nat) (hne : a.block ≠ b.block) (tA tB : TypeId) (kA kB : Nat) (hsa : w.shape? a.block = some (tA, kA)) (hsb : w.shape? b.block = some (tB, kB)) (hkB : kB ≠ 0) (hfa : w.frozen? a = false) (hfe : w.frozen? { block := a.block, off := kA } = false) :
    (callFunc 40 #[.slice (some a) la ca, .slice (some b) lb cb]).run Tryz.prog w = .ok (.value (.bool false)) w := by
  rw [run_callFunc_extern Tryz.func40 (by kernel_rfl) (by kernel_rfl) (by kernel_rfl) (e := Extern.SlicesOverlaps.overlaps #[42, 42] #[4]) (by kernel_rfl),
    Lib.run_overlaps_apart w 42 4 28 Tryz.underlying42 3 Tryz.ins_sizeOf a b la ca lb cb hne tA tB kA kB hsa hsb hkB hfa hfe]
  rfl
set_option maxHeartbeats 4000000 in
set_option maxRecDepth 100000 in
theorem Tryz.ins_shift (b off n c i vb voff vc : Nat) (cs vs : List Value) (w : World) (hi : i < n) (hroom : n + 1 ≤ c) (hn9 : n ≤ 1000000000) (hvb : vb ≠ b)
    (hcl : cs.length = n * 3) (hvl : vs.length = 3)
    (hcs : ∀ j v, cs[j]? = some v → w.cell? ⟨b, off + j, none⟩ = some v) (hsp : ∀ j, j < (n + 1) * 3 → (w.cell? ⟨b, off + j, none⟩).isSome = true) (hfz : ∀ j, j < (n + 1) * 3 → w.frozen? ⟨b, off + j, none⟩ = false)
    (hvs : ∀ j v, vs[j]? = some v → w.cell? ⟨vb, voff + j, none⟩ = some v) (h1c : ∀ v ∈ cs, v.oneCell' = true) (h1v : ∀ v ∈ vs, v.oneCell' = true)
    (tA tB : TypeId) (kA kB : Nat) (hsa : w.shape? vb = some (tA, kA)) (hsb : w.shape? b = some (tB, kB)) (hkB : kB ≠ 0) (hfa : w.frozen? ⟨vb, voff, none⟩ = false) (hfe : w.frozen? ⟨vb, kA, none⟩ = false) :
    Calls Tryz.prog 22 #[.slice (some ⟨b, off, none⟩) n c, .int .i64 i, .slice (some ⟨vb, voff, none⟩) 1 vc] w fun e w' =>
      e = .returned (.slice (some ⟨b, off, none⟩) (n + 1) c) ∧ w' = (w.drew.setCells b (off + (i + 1) * 3) (cs.drop (i * 3))).setCells b (off + i * 3) vs := by
  have u3 := run_underlying Tryz.underlying3; have u4 := run_underlying Tryz.underlying4; have uE := run_underlying Tryz.underlying28; have uS := run_underlying Tryz.underlying42
  have mixed : Tryz.prog.follows Departure.mixedOrders = true := by kernel_rfl
  have hz2 : ¬ ((i : Int) = (n : Int)) := by omega
  have hsz := Tryz.ins_sz
  have hov : ∀ lb cb, (callFunc 40 #[.slice (some ⟨vb, voff, none⟩) 1 vc, .slice (some ⟨b, off + (i + 1) * 3, none⟩) lb cb]).run Tryz.prog w = .ok (.value (.bool false)) w := fun lb cb =>
    Tryz.ins_over w ⟨vb, voff, none⟩ ⟨b, off + (i + 1) * 3, none⟩ 1 vc lb cb hvb tA tB kA kB hsa hsb hkB hfa hfe
  have hdl : (cs.drop (i * 3)).length = (n - i) * 3 := by rw [List.length_drop, hcl, Nat.sub_mul]
  have hw1 : IntKind.i64.wrap ((i : Int) + 1) = (i : Int) + 1 := by rw [IntKind.wrap_i64]; omega
  have hw2 : IntKind.i64.wrap ((n : Int) + 1) = (n : Int) + 1 := by rw [IntKind.wrap_i64]; omega
  have hb1 : (0 : Int) ≤ (i : Int) + 1 := by omega
  have hin : i ≤ n := by omega
  have htn : ((i : Int) + 1).toNat = i + 1 := by omega
  have htn2 : ((n : Int) + 1).toNat = n + 1 := by omega
  have hb2 : ¬ (c = i + 1) := by omega
  have hb3 : (i : Int) ≤ (n : Int) + 1 := by omega
  have hb4 : ¬ (c = i) := by omega
  have hcp1 : ∀ ty dc sc, (Builtin.copy_ #[42, 42] ty #[.slice (some ⟨b, off + (i + 1) * 3, none⟩) (n - i) dc, .slice (some ⟨b, off + i * 3, none⟩) (n + 1 - i) sc]).run Tryz.prog w.drew = .ok (goInt (Nat.min (n + 1 - i) (n - i))) (w.drew.setCells b (off + (i + 1) * 3) (cs.drop (i * 3))) := fun ty dc sc =>
    Go.Lg.run_copy_k w.drew _ _ ty 28 3 b (off + (i + 1) * 3) (n - i) dc ⟨b, off + i * 3, none⟩ (n + 1 - i) sc (cs.drop (i * 3)) Tryz.underlying42 hsz (by rw [hdl]; congr 1; simp only [Nat.min_def]; split <;> omega)
      (fun j v hj => by rw [Addr.add_lit, Nat.add_assoc]; exact hcs (i * 3 + j) v (by rwa [List.getElem?_drop] at hj))
      (fun j hj => by rw [Nat.add_assoc]; exact hsp _ (by rw [hdl] at hj; omega)) (fun j hj => by rw [Nat.add_assoc]; exact hfz _ (by rw [hdl] at hj; omega)) (fun v hv => h1c v (List.mem_of_mem_drop hv))
  obtain ⟨W1, hW1⟩ : ∃ W1, W1 = w.drew.setCells b (off + (i + 1) * 3) (cs.drop (i * 3)) := ⟨_, rfl⟩
  have hsp1 : ∀ k, k < (n + 1) * 3 → (W1.cell? ⟨b, off + k, none⟩).isSome = true := fun k hk => by
    rw [hW1]
    exact isSome_setCells b _ _ _ (fun j hj => by rw [Nat.add_assoc]; exact hsp _ (by rw [hdl] at hj; omega)) _ (hsp k hk)
  have hcp2 : ∀ (W : World), (∀ x, W.cell? x = W1.cell? x) → (∀ x, W.frozen? x = W1.frozen? x) → ∀ ty dc, (Builtin.copy_ #[42, 42] ty #[.slice (some ⟨b, off + i * 3, none⟩) (n + 1 - i) dc, .slice (some ⟨vb, voff, none⟩) 1 vc]).run Tryz.prog W = .ok (goInt (Nat.min 1 (n + 1 - i))) (W.setCells b (off + i * 3) vs) := fun W hWc hWf ty dc =>
    Go.Lg.run_copy_k W _ _ ty 28 3 b (off + i * 3) (n + 1 - i) dc ⟨vb, voff, none⟩ 1 vc vs Tryz.underlying42 hsz (by rw [hvl]; simp only [Nat.min_def]; split <;> omega)
      (fun j v hj => by
        rw [Addr.add_lit, hWc, hW1, World.cell?_setCells_out b _ _ _ _ (fun h _ => absurd h hvb)]
        exact hvs j v hj)
      (fun j hj => by rw [hWc, Nat.add_assoc]; exact hsp1 _ (by omega)) (fun j hj => by rw [hWf, hW1, World.frozen?_setCells, Nat.add_assoc]; exact hfz _ (by omega)) h1v
  rw [← hW1] at hcp1
  go_enter Tryz.func22, Tryz.ntmps22
  go_wp2_with (simp only [hov])
  go_region_law_o (refine step_copy_runI rfl _ _ 42 42 rfl _ _ (by simp [Act.eval, Act.put]) (by simp [Act.eval, Act.put]) (hcp1 _ _ _) ?_)
  go_wp2_with (at_builtin; refine wpList_copy_runI _ rfl _ _ 42 42 rfl _ _ rfl rfl (hcp2 _ (fun _ => rfl) (fun _ => rfl) _ _) ?_)
  go_ret
  first | exact ⟨rfl, rfl⟩ | exact ⟨rfl, by rw [hW1]⟩
set_option maxHeartbeats 4000000 in
set_option maxRecDepth 100000 in
theorem Tryz.ins_grow (b off n c i vb voff vc : Nat) (cs vs : List Value) (w : World) (hi : i < n) (hnc : n ≤ c) (hroom : c < n + 1) (hbig : (n + 1) * 40 ≤ 140737488355328)
    (hcl : cs.length = n * 3) (hvl : vs.length = 3)
    (hcs : ∀ j v, cs[j]? = some v → w.cell? ⟨b, off + j, none⟩ = some v)
    (hvs : ∀ j v, vs[j]? = some v → w.cell? ⟨vb, voff + j, none⟩ = some v) (h1c : ∀ v ∈ cs, v.oneCell' = true) (h1v : ∀ v ∈ vs, v.oneCell' = true) :
    Calls Tryz.prog 22 #[.slice (some ⟨b, off, none⟩) n c, .int .i64 i, .slice (some ⟨vb, voff, none⟩) 1 vc] w fun e w' =>
      e = .returned (.slice (some ⟨w.heap.size, 0, none⟩) (n + 1) (grownCap w (n + 1) c 28)) ∧
      ∃ ROW : Array Value, ROW.size = grownCap w (n + 1) c 28 * 3 ∧ (∀ (j : Nat) (v : Value), (cs.take (i * 3))[j]? = some v → ROW[j]? = some v) ∧
        w' = (((w.alloc (.cells ROW 28)).drew.setCells w.heap.size (i * 3) vs).drew).setCells w.heap.size ((i + 1) * 3) (cs.drop (i * 3)) := by
  have u3 := run_underlying Tryz.underlying3; have u4 := run_underlying Tryz.underlying4; have uE := run_underlying Tryz.underlying28; have uS := run_underlying Tryz.underlying42
  have mixed : Tryz.prog.follows Departure.mixedOrders = true := by kernel_rfl
  obtain ⟨i0, hi0, hzs, hz0, hzb, hzc⟩ := Tryz.ins_info
  obtain ⟨z, hz0⟩ := Option.isSome_iff_exists.mp hz0
  have hzc := hzc z hz0
  have hz2 : ¬ ((i : Int) = (n : Int)) := by omega
  have hz3 : (c : Int) < (n : Int) + 1 := by omega
  have hsz := Tryz.ins_sz
  have hbw : b < w.heap.size := block_lt_of_cell (hcs 0 _ (List.getElem?_eq_getElem (by omega)))
  have hvw : vb < w.heap.size := block_lt_of_cell (hvs 0 _ (List.getElem?_eq_getElem (by omega)))
  have hkk : (n : Int) + 1 - (i : Int) = ((n + 1 - i : Nat) : Int) := by omega
  have hik : i + (n + 1 - i) = n + 1 := by omega
  have hold : (Builtin.firstCells i0.size i (.slice (some ⟨b, off, none⟩) i c)).run Tryz.prog w.drew = .ok (cs.take (i * 3)).toArray w.drew := by
    rw [hzs]
    exact run_firstCells_some w.drew 3 i ⟨b, off, none⟩ i c (cs.take (i * 3)) (by rw [List.length_take]; omega) (fun j v hj => by
      rw [Addr.add_lit]
      rw [List.getElem?_take] at hj
      split at hj
      · exact hcs j v hj
      · cases hj)
  have hrz : ∀ ty, (Builtin.append_ #[42, 3] ty #[.slice (some ⟨b, off, none⟩) i c, .int .i64 ((n : Int) + 1 - (i : Int))]).run Tryz.prog w =
      .ok (.slice (some ⟨w.heap.size, 0, none⟩) (n + 1) (grownCap w (n + 1) c 28)) (w.drew.alloc (.cells ((cs.take (i * 3)).toArray ++ Builtin.zeroCells z.cells (n + 1 - i) ++ Builtin.zeroCells z.cells (grownCap w (n + 1) c 28 - (n + 1))) 28)) := fun ty => by
    have h := Lib.run_append_grow_zeros w 42 3 ty 28 i0 _ .i64 .i64 Tryz.underlying42 Tryz.underlying3 hi0 hz0 (some ⟨b, off, none⟩) i c (cs.take (i * 3)) hold (n + 1 - i) (by omega) (by omega) (by omega) (by omega) (by rw [hzb]; omega) (by rw [hzb, hik]; exact growslice_fits hroom hbig)
    rw [hik] at h
    rw [hkk]
    exact h
  have hGn : n + 1 ≤ grownCap w (n + 1) c 28 := grownCap_ge w _ _ _
  have hGm := grownCap_le_maxLen w (n + 1) c 28 (by unfold maxLen; omega)
  obtain ⟨G, hG⟩ : ∃ G, G = grownCap w (n + 1) c 28 := ⟨_, rfl⟩
  rw [← hG] at hrz hGn hGm ⊢
  obtain ⟨ROW, hROW⟩ : ∃ ROW : Array Value, ROW = (cs.take (i * 3)).toArray ++ Builtin.zeroCells z.cells (n + 1 - i) ++ Builtin.zeroCells z.cells (G - (n + 1)) := ⟨_, rfl⟩
  rw [← hROW] at hrz
  have hRs : ROW.size = G * 3 := by
    rw [hROW]
    simp only [Builtin.zeroCells, Array.size_append, List.size_toArray, Array.size_map, Array.size_range, hzc, List.length_take, hcl]
    omega
  have hRt : ∀ (j : Nat) (v : Value), (cs.take (i * 3))[j]? = some v → ROW[j]? = some v := fun j v hj => by
    have hjl := (List.getElem?_eq_some_iff.mp hj).1
    rw [hROW, Array.append_assoc, Array.getElem?_append_left (by simpa using hjl)]
    simpa using hj
  refine Calls.mono (R := fun e w' => e = .returned (.slice (some ⟨w.heap.size, 0, none⟩) (n + 1) G) ∧ w' = (((w.alloc (.cells ROW 28)).drew.setCells w.heap.size (i * 3) vs).drew).setCells w.heap.size ((i + 1) * 3) (cs.drop (i * 3))) ?_ (fun e w' h => ⟨h.1, ROW, hRs, hRt, h.2⟩)
  have hRl : (n + 1) * 3 ≤ ROW.size := by rw [hRs]; omega
  obtain ⟨W1, hW1⟩ : ∃ W1, W1 = w.drew.alloc (.cells ROW 28) := ⟨_, rfl⟩
  rw [← hW1] at hrz
  have hN : ∀ j, j < (n + 1) * 3 → (W1.cell? ⟨w.heap.size, j, none⟩).isSome = true := fun j hj => by
    rw [hW1, World.cell?_alloc_at (w := w.drew) ROW _ w.heap.size j rfl, Array.getElem?_eq_getElem (by omega)]; rfl
  have hNf : ∀ j, W1.frozen? ⟨w.heap.size, j, none⟩ = false := fun j => by rw [hW1]; exact World.frozen?_alloc_at (w := w.drew) ROW _ w.heap.size j rfl
  have hOb : ∀ j v, w.cell? ⟨b, j, none⟩ = some v → W1.cell? ⟨b, j, none⟩ = some v := fun j v h => by rw [hW1, World.cell?_alloc_past (w := w.drew) _ b j hbw]; exact h
  have hOv : ∀ j v, w.cell? ⟨vb, j, none⟩ = some v → W1.cell? ⟨vb, j, none⟩ = some v := fun j v h => by rw [hW1, World.cell?_alloc_past (w := w.drew) _ vb j hvw]; exact h
  have hcpA : ∀ (W : World), (∀ x, W.cell? x = W1.cell? x) → (∀ x, W.frozen? x = W1.frozen? x) → ∀ ty dc, (Builtin.copy_ #[42, 42] ty #[.slice (some ⟨w.heap.size, i * 3, none⟩) (n + 1 - i) dc, .slice (some ⟨vb, voff, none⟩) 1 vc]).run Tryz.prog W = .ok (goInt (Nat.min 1 (n + 1 - i))) (W.setCells w.heap.size (i * 3) vs) := fun W hWc hWf ty dc =>
    Go.Lg.run_copy_k W _ _ ty 28 3 w.heap.size (i * 3) (n + 1 - i) dc ⟨vb, voff, none⟩ 1 vc vs Tryz.underlying42 hsz (by rw [hvl]; simp only [Nat.min_def]; split <;> omega)
      (fun j v hj => by rw [Addr.add_lit, hWc]; exact hOv _ v (hvs j v hj))
      (fun j hj => by rw [hWc]; exact hN _ (by omega)) (fun j hj => by rw [hWf]; exact hNf _) h1v
  have hG63 : G ≤ 9223372036854775807 := by unfold maxLen at hGm; omega
  have hGi : ¬ (G = i) := by omega
  have hGim : ¬ (G = i + 1) := by omega
  have hci : ¬ (c = i) := by omega
  have hbN : b ≠ w.heap.size := by omega
  have hdl : (cs.drop (i * 3)).length = (n - i) * 3 := by rw [List.length_drop, hcl, Nat.sub_mul]
  have hcpB : ∀ (W : World), (∀ x, W.cell? x = (W1.setCells w.heap.size (i * 3) vs).cell? x) → (∀ x, W.frozen? x = (W1.setCells w.heap.size (i * 3) vs).frozen? x) → ∀ ty dc sc, (Builtin.copy_ #[42, 42] ty #[.slice (some ⟨w.heap.size, (i + 1) * 3, none⟩) (n - i) dc, .slice (some ⟨b, off + i * 3, none⟩) (n - i) sc]).run Tryz.prog W = .ok (goInt (Nat.min (n - i) (n - i))) (W.setCells w.heap.size ((i + 1) * 3) (cs.drop (i * 3))) := fun W hWc hWf ty dc sc =>
    Go.Lg.run_copy_k W _ _ ty 28 3 w.heap.size ((i + 1) * 3) (n - i) dc ⟨b, off + i * 3, none⟩ (n - i) sc (cs.drop (i * 3)) Tryz.underlying42 hsz (by rw [hdl]; congr 1; simp only [Nat.min_def]; split <;> omega)
      (fun j v hj => by
        rw [Addr.add_lit, hWc, World.cell?_setCells_out _ _ _ _ _ (fun h _ => absurd h hbN), Nat.add_assoc]
        exact hOb _ v (hcs (i * 3 + j) v (by rwa [List.getElem?_drop] at hj)))
      (fun j hj => by rw [hWc]; exact isSome_setCells _ _ _ _ (fun t ht => hN _ (by omega)) _ (hN _ (by rw [hdl] at hj; omega)))
      (fun j hj => by rw [hWf, World.frozen?_setCells]; exact hNf _) (fun v hv => h1c v (List.mem_of_mem_drop hv))
  subst hW1
  have hE1 : ∀ x, ((w.alloc (.cells ROW 28)).drew).cell? x = (w.drew.alloc (.cells ROW 28)).cell? x := fun x => rfl
  have hE2 : ∀ x, ((w.alloc (.cells ROW 28)).drew).frozen? x = (w.drew.alloc (.cells ROW 28)).frozen? x := fun x => rfl
  have hF1 : ∀ x, (((w.alloc (.cells ROW 28)).drew.setCells w.heap.size (i * 3) vs).drew).cell? x = ((w.drew.alloc (.cells ROW 28)).setCells w.heap.size (i * 3) vs).cell? x := fun x => rfl
  have hF2 : ∀ x, (((w.alloc (.cells ROW 28)).drew.setCells w.heap.size (i * 3) vs).drew).frozen? x = ((w.drew.alloc (.cells ROW 28)).setCells w.heap.size (i * 3) vs).frozen? x := fun x => rfl
  have hw1 : IntKind.i64.wrap ((i : Int) + 1) = (i : Int) + 1 := by rw [IntKind.wrap_i64]; omega
  have hw2 : IntKind.i64.wrap ((n : Int) + 1) = (n : Int) + 1 := by rw [IntKind.wrap_i64]; omega
  have hw3 : IntKind.i64.wrap ((n : Int) + 1 - (i : Int)) = (n : Int) + 1 - (i : Int) := by rw [IntKind.wrap_i64]; omega
  have hb1 : (0 : Int) ≤ (i : Int) + 1 := by omega
  have hin : i ≤ n := by omega
  have htn : ((i : Int) + 1).toNat = i + 1 := by omega
  have hb3 : (i : Int) ≤ (n : Int) := by omega
  clear hkk hik hold hROW hG hRl hRs hRt
  go_enter Tryz.func22, Tryz.ntmps22
  go_wp2_with (first
    | (at_builtin; refine Lib.wpList_append_run _ rfl _ _ _ _ rfl _ _ rfl rfl _ _ (hrz _) ?_)
    | (at_builtin; refine wpList_copy_runI _ rfl _ _ 42 42 rfl _ _ rfl rfl (hcpA _ hE1 hE2 _ _) ?_)
    | (at_builtin; refine wpList_copy_runI _ rfl _ _ 42 42 rfl _ _ rfl rfl (hcpB _ (fun _ => rfl) (fun _ => rfl) _ _ _) ?_))
  go_region_law_o (refine step_copy_runI rfl _ _ 42 42 rfl (.slice (some ⟨w.heap.size, (i + 1) * 3, none⟩) (n - i) (G - (i + 1))) (.slice (some ⟨b, off + i * 3, none⟩) (n - i) (c - i)) (by simp [Act.eval, Act.put]) (by simp [Act.eval, Act.put]) (hcpB _ hF1 hF2 3 (G - (i + 1)) (c - i)) ?_)
  go_wp2
  go_ret
  exact ⟨rfl, rfl⟩
set_option maxHeartbeats 4000000 in
set_option maxRecDepth 100000 in
theorem Tryz.ins_last (base : Option Addr) (n c vc : Nat) (va : Addr) (r : Value) (w w' : World) (hnc : n ≤ c) (hrun : ∀ ty, (Builtin.append_ #[42, 42] ty #[.slice base n c, .slice (some va) 1 vc]).run Tryz.prog w = .ok r w') (hnil : base = none → n = 0) :
    Calls Tryz.prog 22 #[.slice base n c, .int .i64 n, .slice (some va) 1 vc] w fun e w'' => e = .returned r ∧ w'' = w' := by
  have u3 := run_underlying Tryz.underlying3; have u4 := run_underlying Tryz.underlying4; have uE := run_underlying Tryz.underlying28; have uS := run_underlying Tryz.underlying42
  have mixed : Tryz.prog.follows Departure.mixedOrders = true := by kernel_rfl
  have hsz := Tryz.ins_sz
  go_enter Tryz.func22, Tryz.ntmps22
  cases base with
  | none =>
    have h0 := hnil rfl
    subst h0
    go_wp2_with (at_builtin; refine Lib.wpList_append_run _ rfl _ _ _ _ rfl _ _ rfl rfl _ _ (hrun _) ?_)
    go_ret
    exact ⟨rfl, rfl⟩
  | some a =>
    by_cases hcn : c = n
    · subst hcn
      go_wp2_with (at_builtin; refine Lib.wpList_append_run _ rfl _ _ _ _ rfl _ _ rfl rfl _ _ (hrun _) ?_)
      go_ret
      exact ⟨rfl, rfl⟩
    · go_wp2_with (at_builtin; refine Lib.wpList_append_run _ rfl _ _ _ _ rfl _ _ rfl rfl _ _ (hrun _) ?_)
      go_ret
      exact ⟨rfl, rfl⟩

set_option maxHeartbeats 4000000 in
set_option maxRecDepth 100000 in
theorem Tryz.sis_walk (kg : Nat) (eg : ∀ args w, (callFunc kg args).run Tryz.prog w = .ok (.enter kg args) w) (n c : Nat) (p : Option Addr) (lb : Array Value) (B : Nat → Bool) (w : World) (hn : n < 4611686018427387904)
    (hp : ∀ W, Below w.heap.size w W → ∀ k : Nat, k + 1 < n → Calls Tryz.prog kg (#[.int .i64 ((k + 1 : Nat) : Int), .int .i64 (k : Int)] ++ lb) W fun e W' => e = .returned (.bool (B k)) ∧ Below w.heap.size w W') :
    Calls Tryz.prog 11 #[.iface 42 (.slice p n c), .func (.func kg) #[] lb] w fun e w' => e = .returned (.bool (Go.Lg.sisB B n)) ∧ Below w.heap.size w w' := by
  have u3 := run_underlying Tryz.underlying3; have u4 := run_underlying Tryz.underlying4; have uV := run_underlying Tryz.underlying74
  have mixed : Tryz.prog.follows Departure.mixedOrders = true := by kernel_rfl
  obtain ⟨i, hi, hd⟩ : ∃ i, Tryz.prog.info? 42 = some i ∧ i.desc = .slice 28 := by
    have h : (match Tryz.prog.info? 42 with | some i => (match i.desc with | .slice e => Nat.beq e 28 | _ => false) | none => false) = true := by kernel_rfl
    revert h
    split
    · rename_i i hi
      intro h
      split at h
      · rename_i e he
        exact ⟨i, hi, by rw [he, Nat.eq_of_beq_eq_true h]⟩
      · cases h
    · intro h; cases h
  have hpk : Tryz.prog.packed 42 = false := by kernel_rfl
  have hv := run_valueOf_slice (P := Tryz.prog) 42 28 i hi hd p n c w
  have hl := fun a w ha => run_valueLen_slice (P := Tryz.prog) 42 28 i hi hd hpk a p n c w ha
  have hgs : Tryz.prog.globals.size = 1 := by kernel_rfl
  simp only [typeHandle, hgs] at hv hl
  have hw1 : IntKind.i64.wrap ((n : Int) - 1) = (n : Int) - 1 := by rw [IntKind.wrap_i64]; omega
  go_enter Tryz.func11, Tryz.ntmps11
  go_wp2
  rw [run_callFunc_extern Tryz.func25 (by kernel_rfl) (by kernel_rfl) (by kernel_rfl) (e := fun args => Extern.ReflectliteValue.unpack (args.getD 0 (.tuple #[]))) (by kernel_rfl),
    show Sem.run Tryz.prog ((fun args : Array Value => Extern.ReflectliteValue.unpack (args.getD 0 (.tuple #[]))) #[.iface 42 (.slice p n c)]) w = _ from hv]
  simp only [Result.andThen]
  rw [Oper.upon_value]
  go_wp2
  rw [run_callFunc_extern Tryz.func26 (by kernel_rfl) (by kernel_rfl) (by kernel_rfl) (e := Extern.ReflectliteValue.method (Extern.ReflectliteValue.valueError "reflectlite.Value.Len" 0) Extern.ReflectliteValue.len) (by kernel_rfl),
    hl _ _ (by simp)]
  simp only [Result.andThen]
  rw [Oper.upon_value]
  go_wp2
  go_loopg [7] n (fun gk v7 wx => v7 = .int .i64 ((gk : Int) - 1) ∧ gk ≤ n ∧ Below w.heap.size w wx ∧ Go.Lg.sisB B gk = Go.Lg.sisB B n)
  case atStart => exact ⟨by first | rfl | simp, Nat.le_refl _, ((Below.refl _ w).alloc (Nat.le_refl _) _).alloc (by simp) _, rfl⟩
  case round =>
    obtain ⟨rfl, hgn, hbw, hB⟩ := hrel
    match gk, hgn, hB with
    | 0, hgn, hB =>
      go_wp2
      go_ret
      exact ⟨by rw [← hB]; rfl, hbw⟩
    | 1, hgn, hB =>
      go_wp2
      go_ret
      exact ⟨by rw [← hB]; rfl, hbw⟩
    | k + 2, hgn, hB =>
      have e1 : ((k + 2 : Nat) : Int) - 1 = ((k + 1 : Nat) : Int) := by omega
      have e2 : IntKind.i64.wrap (((k + 1 : Nat) : Int) - 1) = (k : Int) := by rw [IntKind.wrap_i64]; omega
      have hpos : (0 : Int) < ((k + 1 : Nat) : Int) := by omega
      have cS := hp wr hbw k (by omega)
      rw [e1]
      generalize hK : ((k + 1 : Nat) : Int) = K1 at e2 hpos cS ⊢
      cases hb : B k with
      | true =>
        rw [hb] at cS
        go_wp2_with (go_at_fn kg; refine cS.mono ?_; rintro e W' ⟨rfl, hW⟩)
        go_ret
        exact ⟨by rw [← hB]; simp [Go.Lg.sisB, hb], hW⟩
      | false =>
        rw [hb] at cS
        go_wp2_with (go_at_fn kg; refine cS.mono ?_; rintro e W' ⟨rfl, hW⟩)
        go_roundg (k + 1)
        case measure => omega
        case rel => exact ⟨congrArg (Value.int .i64) (show (k : Int) = ((k + 1 : Nat) : Int) - 1 by omega), by omega, hW, by rw [← hB]; simp [Go.Lg.sisB, hb]⟩

set_option maxHeartbeats 4000000 in
set_option maxRecDepth 100000 in
theorem Tryz.less_walk (pb po b o n c i j : Nat) (x y : ByteArray) (W : World) (hc : W.cell? ⟨pb, po, none⟩ = some (.slice (some ⟨b, o, none⟩) n c)) (hx : W.cell? ⟨b, o + i * 3 + 1, none⟩ = some (.string x)) (hy : W.cell? ⟨b, o + j * 3 + 1, none⟩ = some (.string y)) (hi : i < n) (hj : j < n) :
    Calls Tryz.prog 12 #[.int .i64 i, .int .i64 j, .pointer (some ⟨pb, po, none⟩)] W fun e W' => e = .returned (.bool (Go.Lg.sltB x y)) ∧ ∃ q, W' = W.drewN q := by
  have u3 := run_underlying Tryz.underlying3; have u4 := run_underlying Tryz.underlying4; have u9 := run_underlying Tryz.underlying9; have uS := run_underlying Tryz.underlying42; have uE := run_underlying Tryz.underlying28
  have mixed : Tryz.prog.follows Departure.mixedOrders = true := by kernel_rfl
  have a9 : ∀ w, (isAgg 9).run Tryz.prog w = .ok false w := fun w => by
    rfl
  have aS : ∀ w, (isAgg 42).run Tryz.prog w = .ok false w := fun w => by
    rfl
  go_enter Tryz.func12, Tryz.ntmps12
  have hi2 : (i : Int) < (n : Int) := by omega
  have hj2 : (j : Int) < (n : Int) := by omega
  go_wp2
  go_region_o
  all_goals go_wp2
  all_goals go_ret
  all_goals exact ⟨by rw [← Go.Lg.sltB_eq]; rfl, 1, rfl⟩

end Go.Proofs
namespace Go.Lg.Tryz
open Go Go.Proofs
theorem str_ok : OvOK Tryz.prog strO := libO_ok (orO_ok (compare_ok (by kernel_rfl) ⟨_, Proofs.Tryz.cmpLs, rfl⟩) (orO_ok (sis_ok (by kernel_rfl) (fun pb po b o n c i j x y W h1 h2 h3 h4 h5 => Proofs.Tryz.less_walk pb po b o n c i j x y W h1 h2 h3 h4 h5) (fun n c p lb B w h1 h2 => Proofs.Tryz.sis_walk 12 (Go.Proofs.enters_of Tryz.func12 (by kernel_rfl) rfl) n c p lb B w h1 h2)) (ins_ok (by kernel_rfl) Proofs.Tryz.ins_last fun b off n c i vb voff vc cs vs w h1 h2 hz h3 h4 h5 h6 h7 h8 h9 ha hb tA tB kA kB hc hd he hf hg => Proofs.Tryz.ins_shift b off n c i vb voff vc cs vs w h1 h2 hz h3 h4 h5 h6 h7 h8 h9 ha hb tA tB kA kB hc hd he hf hg)))
end Go.Lg.Tryz
