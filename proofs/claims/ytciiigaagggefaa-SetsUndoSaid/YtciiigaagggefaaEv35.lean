/- Soundness of the evaluator. Part 35: slices.SortFunc on whole numbers, by cmp.Compare: a summary of one outcome, from the kit's contract. -/
import Derived.Test.YtciiigaagggefaaEv34
import Derived.Shelf.SlSortCmp.NoneTotal
namespace Go.Lg
open Go Go.Maps Go.Sort
open Go.RowKit (Below)
set_option linter.unusedVariables false
set_option linter.unusedSimpArgs false

def rowI : List Value → Option (List Int)
  | [] => some []
  | v :: vs => (keyI v).bind fun x => (rowI vs).bind fun l => some (x :: l)
theorem rowI_get : ∀ {vs : List Value} {l : List Int}, rowI vs = some l → vs = l.map (Value.int .i64)
  | [], l, h => by simp only [rowI, Option.some.injEq] at h; subst h; rfl
  | v :: vs, l, h => by
    simp only [rowI, Option.bind_eq_some_iff] at h
    obtain ⟨x, hx, m, hm, h⟩ := h
    obtain rfl := Option.some.inj h
    have : v = .int .i64 x := by
      unfold keyI at hx
      split at hx
      · obtain rfl := Option.some.inj hx; rfl
      · cases hx
    rw [this, rowI_get hm]; rfl
theorem rowI_of : ∀ l : List Int, rowI (l.map (Value.int .i64)) = some l
  | [] => rfl
  | x :: l => by simp only [List.map_cons, rowI, keyI, Option.bind_some, rowI_of l]
def sortI (l : List Int) : List Int := l.mergeSort fun x y => decide (x ≤ y)
noncomputable def sortF (kg : FuncId) (vs : List Value) (h : AH) : Option (List (Value × AH)) := match vs with
  | [.slice a n _, .func (.func g) ⟨[]⟩ ⟨[]⟩] => cond (Nat.beq g kg) (cond (Nat.beq n 0) (some [(.tuple #[], h)]) (cond (Nat.ble n 1000000) (match a with
    | some ⟨b, o, none⟩ => (ldRow h b o n).bind fun row => (rowI row).bind fun l => (h.st b o ((sortI l).map (Value.int .i64))).bind fun h' => some [(.tuple #[], h')]
    | _ => none) none)) none
  | _ => none
noncomputable def sortS (ks kg : FuncId) : SumEv := fun f => cond (Nat.beq f ks) (some (sortF kg)) none
def orS (S S' : SumEv) : SumEv := fun f => match S f with
  | some g => some g
  | none => S' f
theorem orS_ok {P : Program} {S S' : SumEv} (h : SumOK P S) (h' : SumOK P S') : SumOK P (orS S S') := by
  intro f g hg
  unfold orS at hg
  split at hg
  · rename_i g' e
    obtain rfl := Option.some.inj hg
    exact h f _ e
  · exact h' f g hg

theorem st_good {φ : Emb} {h h' : AH} {w w' : World} (hr : HRel φ h w) {b o : Nat} {t : Tgt} (ht : φ b = some t) {vs cs : List Value} (hv : VRs φ vs cs) (hok : vs.all cellOk = true) (hs : h.st b o vs = some h')
    {rc : Array Value} {el : TypeId} (hg : w.heap[t.blk]? = some (.cells rc el (0, 0))) (h3 : w'.heap[t.blk]? = some (.cells (AH.setL rc.toList (t.sh + o) cs).toArray el (0, 0)))
    (h4 : ∀ k, k < w.heap.size → k ≠ t.blk → w'.heap[k]? = w.heap[k]?) (h5 : w'.os = w.os) (h6 : w'.tape = w.tape) (h7 : w'.output = w.output) (h8 : w.heap.size ≤ w'.heap.size) : Good φ w h' w' φ := by
  obtain ⟨c, op, esz, hb, hle, rfl⟩ := st_inv hs
  obtain ⟨t', h1, hro, hesz, htot, hblk, hcells⟩ := hr.cells b c op false esz hb
  rw [ht] at h1
  obtain rfl := Option.some.inj h1
  obtain ⟨rc', el', hg', hrc⟩ := hblk rfl
  rw [hg] at hg'
  simp only [Option.some.injEq, Obj.cells.injEq] at hg'
  obtain ⟨rfl, rfl, _⟩ := hg'
  have hlen := hv.length
  have hother : ∀ a : Addr, a.block < w.heap.size → a.block ≠ t.blk → w'.cell? a = w.cell? a := fun a ha hne => by simp [World.cell?, h4 a.block ha hne]
  refine ⟨.refl _ _, ⟨h5, h6, h7, h8, fun B hB hro' => ?_⟩, ?_⟩
  · by_cases hBt : B = t.blk
    · have := hro' b t ht hBt.symm
      rw [hro] at this
      cases this
    · exact h4 B hB hBt
  · refine ⟨hr.lt, fun b' t' h => by have := hr.blkLt b' t' h; omega, ?_, ?_, ?_, ?_, ?_⟩
    · intro b' c' op' ro' esz' hb'
      rw [AH.get_set] at hb'
      by_cases e : b' = b
      · subst e
        rw [if_pos rfl] at hb'
        simp only [Option.some.injEq, Blk.cells.injEq] at hb'
        obtain ⟨rfl, rfl, rfl, rfl⟩ := hb'
        refine ⟨t, ht, hro, hesz, by rw [setL_length]; exact htot, fun _ => ⟨_, el, h3, by simp [setL_length]; exact hrc⟩, fun k v hk => ?_⟩
        rw [setL_get _ _ _ _ hle] at hk
        rw [cell_of_row w' t.blk _ _ el (0, 0) h3]
        simp only [List.getElem?_toArray]
        rw [setL_get _ _ _ _ (by simp; omega)]
        by_cases hin : o ≤ k ∧ k < o + vs.length
        · rw [if_pos hin] at hk
          rw [if_pos (by omega)]
          obtain ⟨c', hc', hvr⟩ := hv.get _ _ hk
          refine ⟨?_, c', ?_, hvr⟩
          · rw [List.all_eq_true] at hok
            exact hok _ (List.mem_of_getElem? hk)
          · rw [← hc']; congr 1; omega
        · rw [if_neg hin] at hk
          rw [if_neg (by omega)]
          obtain ⟨hc, v', h9, h10⟩ := hcells k v hk
          rw [cell_of_row w t.blk _ _ el (0, 0) hg] at h9
          exact ⟨hc, v', by simpa using h9, h10⟩
      · rw [if_neg e] at hb'
        obtain ⟨t', g1, g2, g3, g4, g5, g6⟩ := hr.cells b' c' op' ro' esz' hb'
        have hlt := hr.blkLt _ _ g1
        have hne : t'.blk ≠ t.blk := fun he => by
          rcases hr.inj b' b _ _ t' t hb' hb g1 ht he with h | ⟨_, h⟩
          · exact e h
          · rw [hro] at h; cases h
        refine ⟨t', g1, g2, g3, g4, fun hf => by rw [h4 _ hlt hne]; exact g5 hf, fun k v hk => ?_⟩
        obtain ⟨hc, v', h9, h10⟩ := g6 k v hk
        exact ⟨hc, v', by rw [hother _ hlt hne]; exact h9, h10⟩
    · intro b' es clk hb'
      rw [AH.get_set] at hb'
      by_cases e : b' = b
      · subst e; rw [if_pos rfl] at hb'; cases hb'
      · rw [if_neg e] at hb'
        obtain ⟨t', es', g1, g2, g3, g4⟩ := hr.maps b' es clk hb'
        have hlt := hr.blkLt _ _ g1
        have hne : t'.blk ≠ t.blk := fun he => by
          rcases hr.inj b' b _ _ t' t hb' hb g1 ht he with h | ⟨_, h⟩
          · exact e h
          · rw [hro] at h; cases h
        exact ⟨t', es', g1, g2, by rw [h4 _ hlt hne]; exact g3, g4⟩
    · intro b1 b2 x x' t1 t2 hx hx' h1 h2' he
      rw [AH.get_set] at hx hx'
      have fx : ∃ y, h.get b1 = some y := by
        by_cases e : b1 = b
        · subst e; exact ⟨_, hb⟩
        · rw [if_neg e] at hx; exact ⟨_, hx⟩
      have fx' : ∃ y, h.get b2 = some y := by
        by_cases e : b2 = b
        · subst e; exact ⟨_, hb⟩
        · rw [if_neg e] at hx'; exact ⟨_, hx'⟩
      obtain ⟨y, hy⟩ := fx
      obtain ⟨y', hy'⟩ := fx'
      exact hr.inj b1 b2 y y' t1 t2 hy hy' h1 h2' he
    · intro b' x hx
      rw [AH.get_set] at hx
      by_cases e : b' = b
      · subst e; exact hr.gets _ _ hb
      · rw [if_neg e] at hx; exact hr.gets _ _ hx
    · intro b' c' esz' t' hx ht'
      rw [AH.get_set] at hx
      by_cases e : b' = b
      · subst e
        rw [if_pos rfl] at hx
        simp only [Option.some.injEq, Blk.cells.injEq] at hx
        obtain ⟨_, rfl, _, _⟩ := hx
        exact hr.sh0 _ _ _ _ hb ht'
      · rw [if_neg e] at hx; exact hr.sh0 _ _ _ _ hx ht'

theorem ltC (x y : Int) : Proofs.ltOf Lib.compareInt x y = decide (x < y) := by
  unfold Proofs.ltOf Lib.compareInt
  by_cases h1 : x < y
  · simp [h1]
  · by_cases h2 : y < x <;> simp [h1, h2]
theorem swoC : SWO (Proofs.ltOf Lib.compareInt) where
  irrefl x := by rw [ltC]; simp
  trans x y z h1 h2 := by rw [ltC] at *; simp at *; omega
  ntrans x y z h1 h2 := by rw [ltC] at *; simp at *; omega
theorem sortC (l : List Int) : (l.mergeSort fun x y => !(Proofs.ltOf Lib.compareInt) y x) = sortI l := by
  unfold sortI
  congr 1
  funext x y
  rw [ltC]
  by_cases h : y < x <;> simp [h] <;> omega
theorem putCells_setL (d : List Int) (off : Nat) (c : Array Value) (hl : off + d.length ≤ c.size) : putCells (Value.int .i64) off d.toArray c = (AH.setL c.toList off (d.map (Value.int .i64))).toArray := by
  apply Array.ext_getElem?
  intro k
  unfold putCells
  rw [Array.getElem?_mapIdx]
  conv => rhs; rw [List.getElem?_toArray, setL_get _ _ _ _ (by simpa using hl), List.length_map]
  by_cases h : off ≤ k ∧ k < off + d.length
  · rw [if_pos h, List.getElem?_map]
    have hk : k < c.size := by omega
    have hkd : k - off < d.length := by omega
    rw [Array.getElem?_eq_getElem hk, List.getElem?_eq_getElem hkd]
    simp [h, hkd]
  · rw [if_neg h, Array.getElem?_toList]
    cases c[k]? with
    | none => rfl
    | some x => simp; intro h1 h2; exact absurd ⟨h1, h2⟩ h
theorem vr_slice_n {φ : Emb} {a : Option Addr} {n c : Nat} {v : Value} (h : VR φ (.slice a n c) v) : ∃ a' c', v = .slice a' n c' := by
  cases h <;> exact ⟨_, _, rfl⟩
theorem vr_fn0 {φ : Emb} {g : FuncId} {v : Value} (h : VR φ (.func (.func g) ⟨[]⟩ ⟨[]⟩) v) : v = .func (.func g) #[] #[] := by
  cases h with
  | @func _ _ _ as' bs' s1 r1 s2 r2 =>
    have ea : as' = #[] := Array.eq_empty_of_size_eq_zero (by rw [← s1]; rfl)
    have eb : bs' = #[] := Array.eq_empty_of_size_eq_zero (by rw [← s2]; rfl)
    rw [ea, eb]
theorem sortS_ok {P : Program} {ks kg : FuncId} (hL : ∃ ρ, Proofs.SlLaysF.n6 P ρ ∧ ρ.f 6 = ks) (eg : ∀ args w, (callFunc kg args).run P w = .ok (.enter kg args) w)
    (hcmp : ∀ (x y : Int) (W : World), Calls P kg #[.int .i64 x, .int .i64 y] W fun e w' => e = .returned (.int .i64 (Lib.compareInt x y)) ∧ ∃ q, w' = W.drewN q) : SumOK P (sortS ks kg) := by
  intro f g hg vs h l hl φ w cs hrel hvs
  unfold sortS at hg
  cases hf : Nat.beq f ks with
  | false => rw [hf] at hg; cases hg
  | true =>
  obtain rfl := Nat.eq_of_beq_eq_true hf
  rw [hf] at hg
  obtain rfl := Option.some.inj hg
  obtain ⟨ρ, L, hk⟩ := hL
  unfold sortF at hl
  split at hl
  · rename_i a n c0 g'
    cases hgk : Nat.beq g' kg with
    | false => rw [hgk] at hl; cases hl
    | true =>
    obtain rfl := Nat.eq_of_beq_eq_true hgk
    rw [hgk, cond_true] at hl
    cases hvs with
    | cons hv1 hr1 =>
    cases hr1 with
    | cons hv2 hr2 =>
    cases hr2
    obtain ⟨a', c', rfl⟩ := vr_slice_n hv1
    have hvn := hv1
    obtain rfl := vr_fn0 hv2
    cases hn0 : Nat.beq n 0 with
    | true =>
      obtain rfl := Nat.eq_of_beq_eq_true hn0
      rw [hn0, cond_true] at hl
      obtain rfl := Option.some.inj hl
      have := Proofs.AnyF.slices_SortFunc_none { L with } a' c' (.func (.func g') #[] #[]) w
      rw [hk] at this
      refine this.mono ?_
      rintro e w' ⟨rfl, rfl⟩
      exact ⟨_, List.mem_cons_self, φ, _, rfl, .refl hrel, .tuple rfl (by simp)⟩
    | false =>
      rw [hn0, cond_false] at hl
      cases hnb : Nat.ble n 1000000 with
      | false => rw [hnb, cond_false] at hl; cases hl
      | true =>
      rw [hnb, cond_true] at hl
      have hnb' := Nat.le_of_ble_eq_true hnb
      have hnp : 0 < n := by cases n with | zero => cases hn0 | succ n => omega
      split at hl
      · rename_i b o
        simp only [Option.bind_eq_some_iff] at hl
        obtain ⟨row, hrow, li, hli, h', hst, hl⟩ := hl
        obtain rfl := Option.some.inj hl
        have hrl := rowI_get hli
        subst hrl
        obtain ⟨c, op, esz, hb, hle, _⟩ := st_inv hst
        have hsl : (sortI li).length = li.length := by unfold sortI; exact List.length_mergeSort _
        have hrow' : Nat.ble (o + n) c.length = true ∧ (c.drop o).take n = li.map (Value.int .i64) := by
          simp only [ldRow, hb] at hrow
          cases hc : Nat.ble (o + n) c.length with
          | false => rw [hc] at hrow; cases hrow
          | true => rw [hc, cond_true] at hrow; exact ⟨rfl, Option.some.inj hrow⟩
        have hbound := Nat.le_of_ble_eq_true hrow'.1
        have hlin : li.length = n := by
          have := congrArg List.length hrow'.2
          rw [List.length_take, List.length_drop, List.length_map] at this
          omega
        obtain ⟨t, ht, hro, hesz, htot, hblk, hcells⟩ := hrel.cells b c op false esz hb
        obtain ⟨rc, el, hgw, hrc⟩ := hblk rfl
        have hbl := hrel.blkLt b t ht
        obtain rfl : a' = some ⟨t.blk, t.sh + o, none⟩ := by
          cases hvn with
          | slice h1 _ => rw [ht] at h1; obtain rfl := Option.some.inj h1; rfl
          | sliceO h1 _ _ => rw [ht] at h1; obtain rfl := Option.some.inj h1; rfl
          | sliceE _ _ => omega
          | sliceZ _ => omega
          | sliceV _ _ => omega
        have hds : li.toArray.size = n := by simpa using hlin
        have hH : Holds (Value.int .i64) w t.blk (t.sh + o) li.toArray := by
          intro j hj
          have hjn : j < n := by omega
          have hjl : j < li.length := by omega
          have hcj : c[o + j]? = some (.int .i64 li[j]) := by
            have : ((c.drop o).take n)[j]? = (li.map (Value.int .i64))[j]? := by rw [hrow'.2]
            rw [List.getElem?_take_of_lt hjn, List.getElem?_drop, List.getElem?_map, List.getElem?_eq_getElem hjl] at this
            exact this
          obtain ⟨_, v', h1, h2⟩ := hcells (o + j) _ hcj
          have : v' = .int .i64 li[j] := by cases h2; rfl
          subst this
          refine ⟨?_, by rw [frozen_of_row w t.blk (t.sh + o + j) rc el hgw]⟩
          have e : li.toArray[j]! = li[j] := by rw [getElem!_pos _ _ (by simpa using hjl)]; rfl
          rw [Nat.add_assoc, h1, e]
        have := Proofs.Any.slices_SortFunc_total L (Value.int .i64) (fun _ => rfl) Lib.compareInt swoC g' #[] t.blk (t.sh + o) c' li.toArray w eg
          (Proofs.CmpReads.lays fun m os dk hs x y => hcmp x y _) hH hbl (by omega) (fun x y h1 h2 => by rw [ltC] at h1 h2; simp at h1 h2; omega)
        rw [hk, hds] at this
        refine this.mono ?_
        rintro e w' ⟨rfl, m, os, rfl⟩
        rw [sortC]
        refine ⟨_, List.mem_cons_self, φ, _, rfl, ?_, .tuple rfl (by simp)⟩
        have hval : VRs φ ((sortI li).map (Value.int .i64)) ((sortI li).map (Value.int .i64)) := VRs_ints φ _
        have hcap : t.sh + o + (sortI li).length ≤ rc.size := by rw [hsl, hlin]; omega
        refine st_good hrel ht hval (by simp only [List.all_eq_true, List.mem_map]; rintro v ⟨y, _, rfl⟩; rfl) hst hgw ?_ ?_ rfl rfl rfl ?_
        · unfold Proofs.sortWorld
          rw [heap_grow_old _ _ (by simpa [putRow, mapBlock, ahead] using hbl)]
          rw [← putCells_setL _ _ _ hcap]
          simp [putRow, mapBlock, ahead, Array.getElem?_modify, hgw, onCells]
        · intro k hk1 hk2
          unfold Proofs.sortWorld
          rw [heap_grow_old _ _ (by simpa [putRow, mapBlock, ahead] using hk1)]
          simp [putRow, mapBlock, ahead, Array.getElem?_modify, Ne.symm hk2]
        · simp [Proofs.sortWorld, Sort.grow, putRow, mapBlock, ahead]
      · cases hl
  · cases hl
end Go.Lg
