/- Soundness of the evaluator. Part 34: slices.Collect(maps.Keys(m)): the keys in every order. -/
import Derived.Test.YtciiigaagggefaaGreatEv38
import Derived.Shelf.SlIterI.Collect
import Derived.Shelf.SlIterI.Nil
import Derived.CallsIn
import Derived.Below
import Derived.Shelf.SlSortCmp.NoneTotal
set_option linter.unusedVariables false
set_option linter.unusedSimpArgs false
namespace Go.Lg
open Go Go.Maps
open Go.RowKit (Below)
set_option linter.unusedVariables false

def insAll (x : Int) : List Int → List (List Int)
  | [] => [[x]]
  | y :: l => (x :: y :: l) :: (insAll x l).map (y :: ·)
def permsL : List Int → List (List Int)
  | [] => [[]]
  | x :: l => (permsL l).flatMap (insAll x)
theorem mem_insAll (x : Int) : ∀ (a b : List Int), a ++ x :: b ∈ insAll x (a ++ b)
  | [], [] => by simp [insAll]
  | [], y :: l => by simp [insAll]
  | y :: a, b => by
    simp only [List.cons_append, insAll, List.mem_cons, List.mem_map]
    exact .inr ⟨_, mem_insAll x a b, rfl⟩
theorem mem_permsL : ∀ {l l' : List Int}, l'.Perm l → l' ∈ permsL l
  | [], l', h => by have := h.eq_nil; subst this; simp [permsL]
  | x :: l, l', h => by
    have hx : x ∈ l' := h.symm.subset (by simp)
    obtain ⟨a, b, rfl⟩ := List.append_of_mem hx
    have h2 : (a ++ b).Perm l := by
      have := (List.perm_middle.symm.trans h)
      exact List.Perm.cons_inv this
    simp only [permsL, List.mem_flatMap]
    exact ⟨_, mem_permsL h2, mem_insAll x a b⟩
theorem insAll_perm (x : Int) : ∀ (l m : List Int), m ∈ insAll x l → m.Perm (x :: l)
  | [], m, h => by simp [insAll] at h; subst h; exact .refl _
  | y :: l, m, h => by
    simp only [insAll, List.mem_cons, List.mem_map] at h
    rcases h with rfl | ⟨k, hk, rfl⟩
    · exact .refl _
    · exact ((insAll_perm x l k hk).cons y).trans (List.Perm.swap x y l)
theorem permsL_perm : ∀ {l m : List Int}, m ∈ permsL l → m.Perm l
  | [], m, h => by simp [permsL] at h; subst h; exact .refl _
  | x :: l, m, h => by
    simp only [permsL, List.mem_flatMap] at h
    obtain ⟨k, hk, hm⟩ := h
    exact (insAll_perm x k m hm).trans ((permsL_perm hk).cons x)

def keyI : Value → Option Int
  | .int .i64 x => some x
  | _ => none
def keysI : List MapEntry → Option (List Int)
  | [] => some []
  | e :: es => (keyI e.key).bind fun x => (keysI es).bind fun l => some (x :: l)
def nodupN : List Nat → Bool
  | [] => true
  | x :: l => l.all (fun y => !Nat.beq x y) && nodupN l
def nodupI : List Int → Bool
  | [] => true
  | x :: l => l.all (fun y => !decide (x = y)) && nodupI l
theorem nodupN_ok : ∀ {l : List Nat}, nodupN l = true → l.Nodup
  | [], _ => List.nodup_nil
  | x :: l, h => by
    simp only [nodupN, Bool.and_eq_true, List.all_eq_true] at h
    refine List.nodup_cons.mpr ⟨fun hm => ?_, nodupN_ok h.2⟩
    have := h.1 x hm
    rw [Nat.beq_refl] at this
    cases this
theorem nodupI_ok : ∀ {l : List Int}, nodupI l = true → l.Nodup
  | [], _ => List.nodup_nil
  | x :: l, h => by
    simp only [nodupI, Bool.and_eq_true, List.all_eq_true] at h
    refine List.nodup_cons.mpr ⟨fun hm => ?_, nodupI_ok h.2⟩
    have := h.1 x hm
    simp at this
def collectOk (es : List MapEntry) (clk : Nat) (ks : List Int) : Bool :=
  Nat.ble es.length 1000000 && (es.all (fun e => Nat.blt e.born clk) && (nodupN (es.map (·.born)) && (nodupI ks && ks.all (fun x => (Lit.int .i64 x).wf))))
def outC (h : AH) : List Int → Value × AH
  | [] => (.slice none 0 0, h)
  | x :: l => (.slice (some ⟨h.n, 0, none⟩) (x :: l).length opn, h.push (.cells ((x :: l).map (Value.int .i64)) true false 1))
def colArg : List Value → Option (FuncId × Nat)
  | [.func (.func g) ⟨[]⟩ ⟨[.pointer (some ⟨ab, 0, none⟩)]⟩] => some (g, ab)
  | _ => none
def colMap (h : AH) (ab : Nat) : Option (Option Nat) := match h.get ab with
  | some (.cells [.map m] false false _) => some m
  | _ => none
def colKeys (h : AH) (r : Nat) : Option (List Int) := match h.get r with
  | some (.map es clk) => (keysI es).bind fun ks => cond (collectOk es clk ks) (some ks) none
  | _ => none
def collectF (fks : List Nat) (vs : List Value) (h : AH) : Option (List (Value × AH)) :=
  (colArg vs).bind fun p => cond (fks.any (Nat.beq p.1)) ((colMap h p.2).bind fun m => match m with
    | none => some [(.slice none 0 0, h)]
    | some r => (colKeys h r).bind fun ks => some ((permsL ks).map (outC h))) none
def colS (kc : Nat) (fks : List Nat) : SumEv := fun f => cond (Nat.beq f kc) (some (collectF fks)) none

/-- a block that came to be behind a world's end -/
theorem push_at {φ : Emb} {h : AH} {w w' : World} (hr : HRel φ h w) (hb : Below w.heap.size w w') {g : Nat} {cur : Array Value} {el : TypeId} (hg : w'.heap[g]? = some (.cells cur el (0, 0))) (hgw : w.heap.size ≤ g)
    {c rc : List Value} {esz : Nat} (hv : VRs φ c rc) (hrc : cur.toList.take c.length = rc) (hok : c.all cellOk = true) (op : Bool) :
    Good φ w (h.push (.cells c op false esz)) w' (grow φ h.n ⟨g, 0, cur.size, esz, false⟩) := by
  have hsub := grow_sub hr ⟨g, 0, cur.size, esz, false⟩
  have hlen := hv.length
  have hgl : g < w'.heap.size := (Array.getElem?_eq_some_iff.mp hg).1
  have hcl : c.length ≤ cur.size := by
    have := congrArg List.length hrc
    rw [List.length_take, Array.length_toList (xs := cur)] at this
    omega
  refine ⟨⟨hsub, fun b t hb => ?_⟩, ⟨hb.os, hb.tape, hb.output, hb.size, fun B hB _ => hb.block B hB⟩, ?_⟩
  · simp only [grow] at hb
    split at hb
    · obtain rfl := Option.some.inj hb; exact .inr (.inl hgw)
    · exact .inl hb
  · refine ⟨?_, ?_, ?_, ?_, ?_, ?_, ?_, ?_⟩
    · intro b t hb
      simp only [grow] at hb
      split at hb
      · rename_i e; simp [AH.push, e]
      · have := hr.lt b t hb; simp [AH.push]; omega
    · intro b t hb'
      simp only [grow] at hb'
      split at hb'
      · obtain rfl := Option.some.inj hb'; exact hgl
      · have := hr.blkLt b t hb'; have := hb.size; omega
    · intro b c' op' ro' esz' hb'
      rw [AH.get_push] at hb'
      by_cases e : b = h.n
      · subst e
        rw [if_pos rfl] at hb'
        simp only [Option.some.injEq, Blk.cells.injEq] at hb'
        obtain ⟨rfl, rfl, rfl, rfl⟩ := hb'
        refine ⟨_, grow_new φ h.n _, rfl, rfl, by simpa using hcl, fun _ => ⟨_, el, hg, by simp⟩, fun k v hk => ?_⟩
        rw [cell_of_row _ g _ _ el (0, 0) hg]
        obtain ⟨v', h1, h2⟩ := hv.get k v hk
        refine ⟨by rw [List.all_eq_true] at hok; exact hok _ (List.mem_of_getElem? hk), v', ?_, h2.mono hsub⟩
        simp only [Nat.zero_add]
        rw [← hrc, List.getElem?_take] at h1
        split at h1
        · rw [Array.getElem?_toList] at h1; exact h1
        · cases h1
      · rw [if_neg e] at hb'
        obtain ⟨t', g1, g2, g3, g4, g5, g6⟩ := hr.cells b c' op' ro' esz' hb'
        have hlt := hr.blkLt b t' g1
        refine ⟨t', hsub _ _ g1, g2, g3, g4, fun hf => by rw [hb.block _ hlt]; exact g5 hf, fun k v hk => ?_⟩
        obtain ⟨hc, v', h9, h10⟩ := g6 k v hk
        refine ⟨hc, v', ?_, h10.mono hsub⟩
        rw [← h9]
        simp only [World.cell?]
        rw [hb.block _ hlt]
    · intro b es clk hb'
      rw [AH.get_push] at hb'
      by_cases e : b = h.n
      · subst e; rw [if_pos rfl] at hb'; cases hb'
      · rw [if_neg e] at hb'
        obtain ⟨t', es', g1, g2, g3, g4⟩ := hr.maps b es clk hb'
        have hlt := hr.blkLt b t' g1
        exact ⟨t', es', hsub _ _ g1, g2, by rw [hb.block _ hlt]; exact g3, g4.len, fun i e e' h1 h2 => let ⟨a, b, c, d⟩ := g4.at_ i e e' h1 h2; ⟨a, b, c, d.mono hsub⟩⟩
    · intro b1 b2 x x' t1 t2 hx hx' h1 h2 he
      rw [AH.get_push] at hx hx'
      simp only [grow] at h1 h2
      by_cases e1 : b1 = h.n
      · by_cases e2 : b2 = h.n
        · exact .inl (e1.trans e2.symm)
        · rw [if_pos e1] at h1
          rw [if_neg e2] at h2
          obtain rfl := Option.some.inj h1
          have := hr.blkLt b2 t2 h2
          simp at he; omega
      · rw [if_neg e1] at h1 hx
        by_cases e2 : b2 = h.n
        · rw [if_pos e2] at h2
          obtain rfl := Option.some.inj h2
          have := hr.blkLt b1 t1 h1
          simp at he; omega
        · rw [if_neg e2] at h2 hx'
          exact hr.inj b1 b2 _ _ t1 t2 hx hx' h1 h2 he
    · intro b x hx
      rw [AH.get_push] at hx
      by_cases e : b = h.n
      · simp [AH.push, e]
      · rw [if_neg e] at hx
        have := hr.gets b x hx
        simp [AH.push]; omega
    · intro b c' esz' t' hx ht'
      rw [AH.get_push] at hx
      simp only [grow] at ht'
      by_cases e : b = h.n
      · rw [if_pos e] at ht'
        obtain rfl := Option.some.inj ht'
        rfl
      · rw [if_neg e] at hx ht'
        exact hr.sh0 _ _ _ _ hx ht'
    · intro b m since seen last hb'
      rw [AH.get_push] at hb'
      by_cases e : b = h.n
      · rw [if_pos e] at hb'; cases hb'
      · rw [if_neg e] at hb'
        obtain ⟨t', cm, g1, g2, g3, g4, g5⟩ := hr.iters b m since seen last hb'
        exact ⟨t', cm, hsub _ _ g1, g2, g3, by rw [hb.block _ (hr.blkLt _ _ g1)]; exact g4, g5.mono hsub⟩

def R0 : Value → Option (DataW Unit × List MemPlace) := fun _ => some (.nil, [])
theorem keysI_get : ∀ {es : List MapEntry} {ks : List Int}, keysI es = some ks → es.map (·.key) = ks.map (Value.int .i64)
  | [], ks, h => by simp only [keysI, Option.some.injEq] at h; subst h; rfl
  | e :: es, ks, h => by
    simp only [keysI, Option.bind_eq_some_iff] at h
    obtain ⟨x, hx, l, hl, h⟩ := h
    obtain rfl := Option.some.inj h
    have : e.key = .int .i64 x := by
      unfold keyI at hx
      split at hx
      · rename_i y hy; obtain rfl := Option.some.inj hx; exact hy
      · cases hx
    rw [List.map_cons, List.map_cons, keysI_get hl, this]
theorem insert_perm {H : Type} (x : Lit × DataW H) : ∀ l : List (Lit × DataW H), (DataW.insert x l).Perm (x :: l)
  | [] => .refl _
  | y :: r => by
    unfold DataW.insert
    split
    · exact .refl _
    · exact ((insert_perm x r).cons y).trans (List.Perm.swap x y r)
theorem sorted_perm {H : Type} : ∀ l : List (Lit × DataW H), (l.foldr DataW.insert []).Perm l
  | [] => .refl _
  | x :: l => (insert_perm x _).trans ((sorted_perm l).cons x)
theorem mapRel_keys {φ : Emb} {es es' : List MapEntry} (h : MapRel φ es es') : es'.map (·.key) = es.map (·.key) ∧ es'.map (·.born) = es.map (·.born) := by
  have key : ∀ (f : MapEntry → Value), (∀ (i : Nat) e e', es[i]? = some e → es'[i]? = some e' → f e' = f e) → es'.map f = es.map f := fun f hf => by
    apply List.ext_getElem?
    intro i
    rw [List.getElem?_map, List.getElem?_map]
    cases he : es[i]? with
    | none =>
      have : es'[i]? = none := by rw [List.getElem?_eq_none_iff] at he ⊢; rw [← h.len]; exact he
      rw [this]
    | some e =>
      obtain ⟨e', he'⟩ : ∃ e', es'[i]? = some e' := ⟨_, List.getElem?_eq_getElem (by rw [← h.len]; exact (List.getElem?_eq_some_iff.mp he).1)⟩
      rw [he']; simp [hf i e e' he he']
  refine ⟨key (·.key) fun i e e' h1 h2 => (h.at_ i e e' h1 h2).2.1, ?_⟩
  have := key (fun e => .int .i64 (e.born : Int)) fun i e e' h1 h2 => by rw [(h.at_ i e e' h1 h2).2.2.1]
  have h2 := congrArg (List.map fun v => match v with | Value.int _ x => x.toNat | _ => 0) this
  simpa [List.map_map, Function.comp_def] using h2
theorem nodup_map_inj {α β : Type} {f : α → β} (hf : ∀ a b, f a = f b → a = b) : ∀ {l : List α}, l.Nodup → (l.map f).Nodup
  | [], _ => by simp
  | a :: l, hn => by
    rw [List.nodup_cons] at hn
    rw [List.map_cons, List.nodup_cons]
    refine ⟨fun hm => ?_, nodup_map_inj hf hn.2⟩
    obtain ⟨b, hb, e⟩ := List.mem_map.mp hm
    exact hn.1 (hf _ _ e ▸ hb)
theorem owns0 {P : Program} {k : TypeId} (hk : P.underlying k = some (.int .i64)) {φ : Emb} {es : List MapEntry} {es' : Array MapEntry} {clk : Nat} {ks : List Int} (hm : MapRel φ es es'.toList) (hks : keysI es = some ks) (ho : collectOk es clk ks = true)
    {w : World} {b : Nat} (hb : w.heap[b]? = some (.map es' clk)) : ∃ D : DataW Unit, w.ownsMap P k R0 b es'.size D ∧ (intKeys D).Perm ks ∧ Maps.size D = ks.length ∧ ks.length ≤ 1000000 := by
  simp only [collectOk, Bool.and_eq_true, List.all_eq_true] at ho
  obtain ⟨o1, o2, o3, o4, o5⟩ := ho
  have hlen : es.length = es'.size := by have := hm.len; rwa [Array.length_toList] at this
  have h1 := keysI_get hks
  have hkl : es.length = ks.length := by have := congrArg List.length h1; simpa using this
  obtain ⟨h2, h3⟩ := mapRel_keys hm
  rw [h1] at h2
  have hle : es.length ≤ 1000000 := Nat.le_of_ble_eq_true o1
  have hkey : ∀ x ∈ es'.toList, ∃ n, x.key = .int .i64 n ∧ (Lit.int .i64 n).wf = true := fun x hx => by
    have : x.key ∈ es'.toList.map (·.key) := List.mem_map.mpr ⟨x, hx, rfl⟩
    rw [h2] at this
    obtain ⟨n, hn, e⟩ := List.mem_map.mp this
    exact ⟨n, e.symm, o5 n hn⟩
  have hrd : ∀ x ∈ es'.toList, ∀ n, x.key = .int .i64 n → (Lit.int .i64 n).wf = true → WideElems.rd P k R0 x = some (.int .i64 n, .nil) := fun x hx n e hw => by
    unfold WideElems.rd
    rw [e]
    simp [keyOf, hk, mapKey, hw, R0]
  refine ⟨_, ⟨es', clk, hb, ⟨by rw [← hlen]; unfold maxLen; omega, ⟨fun x hx => ?_, ?_, ?_⟩, fun x hx => ?_⟩, Nat.le_refl _, rfl⟩, ?_, ?_, by omega⟩
  · have : x.born ∈ es'.toList.map (·.born) := List.mem_map.mpr ⟨x, hx, rfl⟩
    rw [h3] at this
    obtain ⟨e, he, e2⟩ := List.mem_map.mp this
    have := o2 e he
    rw [e2] at this
    exact Nat.ble_eq.mp this
  · rw [h3]; exact nodupN_ok o3
  · rw [h2]; exact nodup_map_inj (fun a b e => by simpa using e) (nodupI_ok o4)
  · obtain ⟨n, e, hw⟩ := hkey x hx
    exact ⟨_, hrd x hx n e hw⟩
  · show (List.map (fun p : Lit × DataW Unit => intOf p.1) _).Perm ks
    refine ((sorted_perm _).map _).trans ?_
    rw [List.map_map]
    have : es'.toList.map ((fun p : Lit × DataW Unit => intOf p.1) ∘ WideElems.rg P k R0) = ks := by
      have h4 : es'.toList.map ((fun p : Lit × DataW Unit => intOf p.1) ∘ WideElems.rg P k R0) = (es'.toList.map (·.key)).map (fun v => match v with | Value.int _ x => x | _ => 0) := by
        rw [List.map_map]
        refine List.map_congr_left fun x hx => ?_
        obtain ⟨n, e, hw⟩ := hkey x hx
        simp only [Function.comp_apply, WideElems.rg, hrd x hx n e hw, Option.getD_some, intOf, e]
      rw [h4, h2, List.map_map]
      have : ((fun v => match v with | Value.int _ x => x | _ => 0) ∘ Value.int .i64) = id := by funext x; rfl
      rw [this, List.map_id]
    rw [this]
  · show (List.length _) = _
    rw [length_sorted, List.length_map, Array.length_toList]
    omega
theorem VRs_ints (φ : Emb) : ∀ l : List Int, VRs φ (l.map (Value.int .i64)) (l.map (Value.int .i64))
  | [] => .nil
  | x :: l => .cons (.int _ _) (VRs_ints φ l)
theorem colS_ok {P : Program} {kc : Nat} {fks : List Nat} (h8 : ∃ ρ, Go.Proofs.SlLaysZI.n8 P ρ ∧ ρ.f 8 = kc) (hk : ∀ g, g ∈ fks → ∃ ρ, Go.Proofs.SlLaysZI.n10 P ρ ∧ ρ.f 10 = g) : SumOK P (colS kc fks) := by
  intro f g hg vs h l hl φ w cs hrel hvs
  unfold colS at hg
  cases hf : Nat.beq f kc with
  | false => rw [hf] at hg; cases hg
  | true =>
  obtain rfl := Nat.eq_of_beq_eq_true hf
  rw [hf] at hg
  obtain rfl := Option.some.inj hg
  simp only [collectF, Option.bind_eq_some_iff] at hl
  obtain ⟨⟨fk, ab⟩, ha, hl⟩ := hl
  cases hfk : fks.any (Nat.beq fk) with
  | false => simp only [hfk, cond_false] at hl; cases hl
  | true =>
  simp only [hfk, cond_true, Option.bind_eq_some_iff] at hl
  obtain ⟨m, hm, hl⟩ := hl
  obtain ⟨fk', hfk1, hfk2⟩ := List.any_eq_true.mp hfk
  obtain rfl := Nat.eq_of_beq_eq_true hfk2
  obtain ⟨ρ8, L8, hk8⟩ := h8
  obtain ⟨ρ, L10, hk10⟩ := hk _ hfk1
  -- the argument
  obtain ⟨t, rfl, hab⟩ : ∃ t, cs = [.func (.func fk) #[] #[.pointer (some ⟨t.blk, t.sh + 0, none⟩)]] ∧ φ ab = some t := by
    unfold colArg at ha
    split at ha
    · rename_i g' ab'
      simp only [Option.some.injEq, Prod.mk.injEq] at ha
      obtain ⟨rfl, rfl⟩ := ha
      cases hvs with
      | cons hv hr =>
      cases hr
      cases hv with
      | @func _ _ _ as' bs' s1 r1 s2 r2 =>
      have ea : as' = #[] := by
        have : as'.size = 0 := by rw [← s1]; rfl
        exact Array.eq_empty_of_size_eq_zero this
      subst ea
      have eb : bs'.size = 1 := by rw [← s2]; rfl
      obtain ⟨b0, rfl⟩ : ∃ b0, bs' = #[b0] := Array.size_eq_one_iff.mp eb
      have := r2 0 _ _ rfl rfl
      cases this with
      | ptr hp => exact ⟨_, rfl, hp⟩
    · cases ha
  obtain ⟨esz, hgm⟩ : ∃ esz, h.get ab = some (.cells [.map m] false false esz) := by
    unfold colMap at hm
    split at hm
    · rename_i m' esz he; obtain rfl := Option.some.inj hm; exact ⟨esz, he⟩
    · cases hm
  obtain ⟨t2, k1, _, _, _, _, k6⟩ := hrel.cells _ _ _ _ _ hgm
  rw [hab] at k1
  obtain rfl := Option.some.inj k1
  have hsh := hrel.sh0 _ _ _ _ hgm hab
  obtain ⟨_, mv, hcell, hmv⟩ := k6 0 (.map m) rfl
  have hblk := hrel.blkLt _ _ hab
  rw [hsh] at hcell ⊢
  have eg : ∀ args w, (callFunc fk args).run P w = .ok (.enter fk args) w := by rw [← hk10]; exact L10.f10.enters rfl
  have res : ∀ ks : List Int, ks.length ≤ 1000000 → (∀ ss : List Int, ss.Perm ks → outC h ss ∈ l) → SeqGives Fence.wide 1 P fk #[.pointer (some ⟨t.blk, 0, none⟩)] encZ (fun ss => ss.Perm ks) ks.length w →
      Calls P f #[.func (.func fk) #[] #[.pointer (some ⟨t.blk, 0, none⟩)]] w fun e w' => ∃ q ∈ l, ∃ φ' c, e = .returned c ∧ Good φ w q.2 w' φ' ∧ VR φ' q.1 c := by
    intro ks hkl hin hseq
    have := Proofs.AnyZI.collect_in L8 Fence.wide 3 trivial trivial rfl (by omega) fk #[.pointer (some ⟨t.blk, 0, none⟩)] trivial eg (fun ss => ss.Perm ks) ks.length (by unfold maxLen; omega) (by omega) w hseq
    rw [hk8] at this
    refine (callsIn_wide.1 this).mono ?_
    rintro e w' ⟨v, ss, rfl, hp, hrow, hnil, hb⟩
    refine ⟨_, hin ss hp, ?_⟩
    cases ss with
    | nil =>
      obtain rfl := hnil.mpr rfl
      exact ⟨φ, _, rfl, ⟨.refl _ _, ⟨hb.os, hb.tape, hb.output, hb.size, fun B hB _ => hb.block B hB⟩, hrel.heap_same hb.size hb.block⟩, .nilS⟩
    | cons x ss =>
      rcases hrow.2 with ⟨_, h0⟩ | ⟨gb, cap, cur, rfl, g1, g2, g3, g4, g5, g6⟩
      · simp at h0
      · refine ⟨_, _, rfl, push_at hrel hb g2 g1 (VRs_ints φ (x :: ss)) ?_ ?_ true, ?_⟩
        · rw [← g6]; simp
        · simp only [List.all_eq_true, List.mem_map]
          rintro v ⟨y, _, rfl⟩
          rfl
        · refine @VR.sliceO _ h.n 0 _ cap _ (grow_new φ h.n _) ?_ g3
          show 0 + 0 + cap * 1 = cur.size
          omega
  cases m with
  | none =>
    cases hmv
    obtain rfl := Option.some.inj hl
    refine res [] (by simp) (fun ss hss => by rw [hss.eq_nil]; simp [outC]) ?_
    have := Proofs.AnyZI.keys_gives_nil L10 Fence.wide 1 trivial rfl t.blk w hblk hcell
    rw [hk10] at this
    intro l' J W hW hJ hY h0
    refine (this l' J W hW hJ (fun pre x W1 _ hlt => absurd hlt (by omega)) h0).mono ?_
    rintro e W' ⟨e1, xs, hxs, hJ'⟩
    subst hxs
    exact ⟨e1, [], .refl _, hJ'⟩
  | some r =>
    simp only [Option.bind_eq_some_iff] at hl
    obtain ⟨ks, hks, hl⟩ := hl
    obtain rfl := Option.some.inj hl
    unfold colKeys at hks
    split at hks
    · rename_i es clk hes
      simp only [Option.bind_eq_some_iff] at hks
      obtain ⟨ks', hk1, hk2⟩ := hks
      cases hco : collectOk es clk ks' with
      | false => rw [hco] at hk2; cases hk2
      | true =>
      rw [hco] at hk2
      obtain rfl := Option.some.inj hk2
      obtain ⟨t3, es', m1, m2, m3, m4⟩ := hrel.maps _ _ _ hes
      cases hmv with
      | map hr3 =>
      rw [m1] at hr3
      obtain rfl := Option.some.inj hr3
      obtain ⟨D, d1, d2, d3, d4⟩ := owns0 (P := P) L10.t26 m4 hk1 hco m3
      refine res ks' d4 (fun ss hss => List.mem_map.mpr ⟨ss, mem_permsL hss, rfl⟩) ?_
      have := Proofs.AnyZI.keys_gives L10 Fence.wide 1 trivial rfl (by omega) t.blk t3.blk _ D w hblk hcell d1
      rw [hk10, d3] at this
      intro l' J W hW hJ hY h0
      refine (this l' J W hW hJ hY h0).mono ?_
      rintro e W' ⟨e1, xs, hxs, hJ'⟩
      exact ⟨e1, xs, hxs.trans d2, hJ'⟩
    · cases hks
end Go.Lg

namespace Go.Lg
open Go Go.Maps Go.Sort
open Go.RowKit (Below)
set_option linter.unusedVariables false
set_option linter.unusedSimpArgs false

def rowI : List Value → Option (List Int)
  | [] => some []
  | v :: vs => (keyI v).bind fun x => (rowI vs).bind fun l => some (x :: l)
theorem rowI_get : ∀ {vs : List Value} {l : List Int}, rowI vs = some l → vs = l.map (Value.int .i64)
  | [], l, h => by simp only [rowI, Option.some.injEq] at h; subst h; rfl
  | v :: vs, l, h => by
    simp only [rowI, Option.bind_eq_some_iff] at h
    obtain ⟨x, hx, m, hm, h⟩ := h
    obtain rfl := Option.some.inj h
    have : v = .int .i64 x := by
      unfold keyI at hx
      split at hx
      · obtain rfl := Option.some.inj hx; rfl
      · cases hx
    rw [this, rowI_get hm]; rfl
theorem rowI_of : ∀ l : List Int, rowI (l.map (Value.int .i64)) = some l
  | [] => rfl
  | x :: l => by simp only [List.map_cons, rowI, keyI, Option.bind_some, rowI_of l]
def sortI (l : List Int) : List Int := l.mergeSort fun x y => decide (x ≤ y)
noncomputable def sortF (kg : FuncId) (vs : List Value) (h : AH) : Option (List (Value × AH)) := match vs with
  | [.slice a n _, .func (.func g) ⟨[]⟩ ⟨[]⟩] => cond (Nat.beq g kg) (cond (Nat.beq n 0) (some [(.tuple #[], h)]) (cond (Nat.ble n 1000000) (match a with
    | some ⟨b, o, none⟩ => (ldRow h b o n).bind fun row => (rowI row).bind fun l => (h.st b o ((sortI l).map (Value.int .i64))).bind fun h' => some [(.tuple #[], h')]
    | _ => none) none)) none
  | _ => none
noncomputable def sortS (ks kg : FuncId) : SumEv := fun f => cond (Nat.beq f ks) (some (sortF kg)) none
def orS (S S' : SumEv) : SumEv := fun f => match S f with
  | some g => some g
  | none => S' f
theorem orS_ok {P : Program} {S S' : SumEv} (h : SumOK P S) (h' : SumOK P S') : SumOK P (orS S S') := by
  intro f g hg
  unfold orS at hg
  split at hg
  · rename_i g' e
    obtain rfl := Option.some.inj hg
    exact h f _ e
  · exact h' f g hg

theorem st_good {φ : Emb} {h h' : AH} {w w' : World} (hr : HRel φ h w) {b o : Nat} {t : Tgt} (ht : φ b = some t) {vs cs : List Value} (hv : VRs φ vs cs) (hok : vs.all cellOk = true) (hs : h.st b o vs = some h')
    {rc : Array Value} {el : TypeId} (hg : w.heap[t.blk]? = some (.cells rc el (0, 0))) (h3 : w'.heap[t.blk]? = some (.cells (AH.setL rc.toList (t.sh + o) cs).toArray el (0, 0)))
    (h4 : ∀ k, k < w.heap.size → k ≠ t.blk → w'.heap[k]? = w.heap[k]?) (h5 : w'.os = w.os) (h6 : w'.tape = w.tape) (h7 : w'.output = w.output) (h8 : w.heap.size ≤ w'.heap.size) : Good φ w h' w' φ := by
  obtain ⟨c, op, esz, hb, hle, rfl⟩ := st_inv hs
  obtain ⟨t', h1, hro, hesz, htot, hblk, hcells⟩ := hr.cells b c op false esz hb
  rw [ht] at h1
  obtain rfl := Option.some.inj h1
  obtain ⟨rc', el', hg', hrc⟩ := hblk rfl
  rw [hg] at hg'
  simp only [Option.some.injEq, Obj.cells.injEq] at hg'
  obtain ⟨rfl, rfl, _⟩ := hg'
  have hlen := hv.length
  have hother : ∀ a : Addr, a.block < w.heap.size → a.block ≠ t.blk → w'.cell? a = w.cell? a := fun a ha hne => by simp [World.cell?, h4 a.block ha hne]
  refine ⟨.refl _ _, ⟨h5, h6, h7, h8, fun B hB hro' => ?_⟩, ?_⟩
  · by_cases hBt : B = t.blk
    · have := hro' b t ht hBt.symm
      rw [hro] at this
      cases this
    · exact h4 B hB hBt
  · refine ⟨hr.lt, fun b' t' h => by have := hr.blkLt b' t' h; omega, ?_, ?_, ?_, ?_, ?_, ?_⟩
    · intro b' c' op' ro' esz' hb'
      rw [AH.get_set] at hb'
      by_cases e : b' = b
      · subst e
        rw [if_pos rfl] at hb'
        simp only [Option.some.injEq, Blk.cells.injEq] at hb'
        obtain ⟨rfl, rfl, rfl, rfl⟩ := hb'
        refine ⟨t, ht, hro, hesz, by rw [setL_length]; exact htot, fun _ => ⟨_, el, h3, by simp [setL_length]; exact hrc⟩, fun k v hk => ?_⟩
        rw [setL_get _ _ _ _ hle] at hk
        rw [cell_of_row w' t.blk _ _ el (0, 0) h3]
        simp only [List.getElem?_toArray]
        rw [setL_get _ _ _ _ (by simp; omega)]
        by_cases hin : o ≤ k ∧ k < o + vs.length
        · rw [if_pos hin] at hk
          rw [if_pos (by omega)]
          obtain ⟨c', hc', hvr⟩ := hv.get _ _ hk
          refine ⟨?_, c', ?_, hvr⟩
          · rw [List.all_eq_true] at hok
            exact hok _ (List.mem_of_getElem? hk)
          · rw [← hc']; congr 1; omega
        · rw [if_neg hin] at hk
          rw [if_neg (by omega)]
          obtain ⟨hc, v', h9, h10⟩ := hcells k v hk
          rw [cell_of_row w t.blk _ _ el (0, 0) hg] at h9
          exact ⟨hc, v', by simpa using h9, h10⟩
      · rw [if_neg e] at hb'
        obtain ⟨t', g1, g2, g3, g4, g5, g6⟩ := hr.cells b' c' op' ro' esz' hb'
        have hlt := hr.blkLt _ _ g1
        have hne : t'.blk ≠ t.blk := fun he => by
          rcases hr.inj b' b _ _ t' t hb' hb g1 ht he with h | ⟨_, h⟩
          · exact e h
          · rw [hro] at h; cases h
        refine ⟨t', g1, g2, g3, g4, fun hf => by rw [h4 _ hlt hne]; exact g5 hf, fun k v hk => ?_⟩
        obtain ⟨hc, v', h9, h10⟩ := g6 k v hk
        exact ⟨hc, v', by rw [hother _ hlt hne]; exact h9, h10⟩
    · intro b' es clk hb'
      rw [AH.get_set] at hb'
      by_cases e : b' = b
      · subst e; rw [if_pos rfl] at hb'; cases hb'
      · rw [if_neg e] at hb'
        obtain ⟨t', es', g1, g2, g3, g4⟩ := hr.maps b' es clk hb'
        have hlt := hr.blkLt _ _ g1
        have hne : t'.blk ≠ t.blk := fun he => by
          rcases hr.inj b' b _ _ t' t hb' hb g1 ht he with h | ⟨_, h⟩
          · exact e h
          · rw [hro] at h; cases h
        exact ⟨t', es', g1, g2, by rw [h4 _ hlt hne]; exact g3, g4⟩
    · intro b1 b2 x x' t1 t2 hx hx' h1 h2' he
      rw [AH.get_set] at hx hx'
      have fx : ∃ y, h.get b1 = some y := by
        by_cases e : b1 = b
        · subst e; exact ⟨_, hb⟩
        · rw [if_neg e] at hx; exact ⟨_, hx⟩
      have fx' : ∃ y, h.get b2 = some y := by
        by_cases e : b2 = b
        · subst e; exact ⟨_, hb⟩
        · rw [if_neg e] at hx'; exact ⟨_, hx'⟩
      obtain ⟨y, hy⟩ := fx
      obtain ⟨y', hy'⟩ := fx'
      exact hr.inj b1 b2 y y' t1 t2 hy hy' h1 h2' he
    · intro b' x hx
      rw [AH.get_set] at hx
      by_cases e : b' = b
      · subst e; exact hr.gets _ _ hb
      · rw [if_neg e] at hx; exact hr.gets _ _ hx
    · intro b' c' esz' t' hx ht'
      rw [AH.get_set] at hx
      by_cases e : b' = b
      · subst e
        rw [if_pos rfl] at hx
        simp only [Option.some.injEq, Blk.cells.injEq] at hx
        obtain ⟨_, rfl, _, _⟩ := hx
        exact hr.sh0 _ _ _ _ hb ht'
      · rw [if_neg e] at hx; exact hr.sh0 _ _ _ _ hx ht'
    · intro b' m since seen last hb'
      rw [AH.get_set] at hb'
      by_cases e : b' = b
      · subst e; rw [if_pos rfl] at hb'; cases hb'
      · rw [if_neg e] at hb'
        obtain ⟨t', cm, g1, g2, g3, g4, g5⟩ := hr.iters b' m since seen last hb'
        have hne : t'.blk ≠ t.blk := fun he => by
          rcases hr.inj b' b _ _ t' t hb' hb g1 ht he with h | ⟨_, h⟩
          · exact e h
          · rw [hro] at h; cases h
        exact ⟨t', cm, g1, g2, g3, by rw [h4 _ (hr.blkLt _ _ g1) hne]; exact g4, g5⟩

theorem ltC (x y : Int) : Proofs.ltOf Lib.compareInt x y = decide (x < y) := by
  unfold Proofs.ltOf Lib.compareInt
  by_cases h1 : x < y
  · simp [h1]
  · by_cases h2 : y < x <;> simp [h1, h2]
theorem swoC : SWO (Proofs.ltOf Lib.compareInt) where
  irrefl x := by rw [ltC]; simp
  trans x y z h1 h2 := by rw [ltC] at *; simp at *; omega
  ntrans x y z h1 h2 := by rw [ltC] at *; simp at *; omega
theorem sortC (l : List Int) : (l.mergeSort fun x y => !(Proofs.ltOf Lib.compareInt) y x) = sortI l := by
  unfold sortI
  congr 1
  funext x y
  rw [ltC]
  by_cases h : y < x <;> simp [h] <;> omega
theorem putCells_setL (d : List Int) (off : Nat) (c : Array Value) (hl : off + d.length ≤ c.size) : putCells (Value.int .i64) off d.toArray c = (AH.setL c.toList off (d.map (Value.int .i64))).toArray := by
  apply Array.ext_getElem?
  intro k
  unfold putCells
  rw [Array.getElem?_mapIdx]
  conv => rhs; rw [List.getElem?_toArray, setL_get _ _ _ _ (by simpa using hl), List.length_map]
  by_cases h : off ≤ k ∧ k < off + d.length
  · rw [if_pos h, List.getElem?_map]
    have hk : k < c.size := by omega
    have hkd : k - off < d.length := by omega
    rw [Array.getElem?_eq_getElem hk, List.getElem?_eq_getElem hkd]
    simp [h, hkd]
  · rw [if_neg h, Array.getElem?_toList]
    cases c[k]? with
    | none => rfl
    | some x => simp; intro h1 h2; exact absurd ⟨h1, h2⟩ h
theorem vr_slice_n {φ : Emb} {a : Option Addr} {n c : Nat} {v : Value} (h : VR φ (.slice a n c) v) : ∃ a' c', v = .slice a' n c' := by
  cases h <;> exact ⟨_, _, rfl⟩
theorem vr_fn0 {φ : Emb} {g : FuncId} {v : Value} (h : VR φ (.func (.func g) ⟨[]⟩ ⟨[]⟩) v) : v = .func (.func g) #[] #[] := by
  cases h with
  | @func _ _ _ as' bs' s1 r1 s2 r2 =>
    have ea : as' = #[] := Array.eq_empty_of_size_eq_zero (by rw [← s1]; rfl)
    have eb : bs' = #[] := Array.eq_empty_of_size_eq_zero (by rw [← s2]; rfl)
    rw [ea, eb]
theorem sortS_ok {P : Program} {ks kg : FuncId} (hL : ∃ ρ, Proofs.SlLaysF.n6 P ρ ∧ ρ.f 6 = ks) (eg : ∀ args w, (callFunc kg args).run P w = .ok (.enter kg args) w)
    (hcmp : ∀ (x y : Int) (W : World), Calls P kg #[.int .i64 x, .int .i64 y] W fun e w' => e = .returned (.int .i64 (Lib.compareInt x y)) ∧ ∃ q, w' = W.drewN q) : SumOK P (sortS ks kg) := by
  intro f g hg vs h l hl φ w cs hrel hvs
  unfold sortS at hg
  cases hf : Nat.beq f ks with
  | false => rw [hf] at hg; cases hg
  | true =>
  obtain rfl := Nat.eq_of_beq_eq_true hf
  rw [hf] at hg
  obtain rfl := Option.some.inj hg
  obtain ⟨ρ, L, hk⟩ := hL
  unfold sortF at hl
  split at hl
  · rename_i a n c0 g'
    cases hgk : Nat.beq g' kg with
    | false => rw [hgk] at hl; cases hl
    | true =>
    obtain rfl := Nat.eq_of_beq_eq_true hgk
    rw [hgk, cond_true] at hl
    cases hvs with
    | cons hv1 hr1 =>
    cases hr1 with
    | cons hv2 hr2 =>
    cases hr2
    obtain ⟨a', c', rfl⟩ := vr_slice_n hv1
    have hvn := hv1
    obtain rfl := vr_fn0 hv2
    cases hn0 : Nat.beq n 0 with
    | true =>
      obtain rfl := Nat.eq_of_beq_eq_true hn0
      rw [hn0, cond_true] at hl
      obtain rfl := Option.some.inj hl
      have := Proofs.AnyF.slices_SortFunc_none { L with } a' c' (.func (.func g') #[] #[]) w
      rw [hk] at this
      refine this.mono ?_
      rintro e w' ⟨rfl, rfl⟩
      exact ⟨_, List.mem_cons_self, φ, _, rfl, .refl hrel, .tuple rfl (by simp)⟩
    | false =>
      rw [hn0, cond_false] at hl
      cases hnb : Nat.ble n 1000000 with
      | false => rw [hnb, cond_false] at hl; cases hl
      | true =>
      rw [hnb, cond_true] at hl
      have hnb' := Nat.le_of_ble_eq_true hnb
      have hnp : 0 < n := by cases n with | zero => cases hn0 | succ n => omega
      split at hl
      · rename_i b o
        simp only [Option.bind_eq_some_iff] at hl
        obtain ⟨row, hrow, li, hli, h', hst, hl⟩ := hl
        obtain rfl := Option.some.inj hl
        have hrl := rowI_get hli
        subst hrl
        obtain ⟨c, op, esz, hb, hle, _⟩ := st_inv hst
        have hsl : (sortI li).length = li.length := by unfold sortI; exact List.length_mergeSort _
        have hrow' : Nat.ble (o + n) c.length = true ∧ (c.drop o).take n = li.map (Value.int .i64) := by
          simp only [ldRow, hb] at hrow
          cases hc : Nat.ble (o + n) c.length with
          | false => rw [hc] at hrow; cases hrow
          | true => rw [hc, cond_true] at hrow; exact ⟨rfl, Option.some.inj hrow⟩
        have hbound := Nat.le_of_ble_eq_true hrow'.1
        have hlin : li.length = n := by
          have := congrArg List.length hrow'.2
          rw [List.length_take, List.length_drop, List.length_map] at this
          omega
        obtain ⟨t, ht, hro, hesz, htot, hblk, hcells⟩ := hrel.cells b c op false esz hb
        obtain ⟨rc, el, hgw, hrc⟩ := hblk rfl
        have hbl := hrel.blkLt b t ht
        obtain rfl : a' = some ⟨t.blk, t.sh + o, none⟩ := by
          cases hvn with
          | slice h1 _ => rw [ht] at h1; obtain rfl := Option.some.inj h1; rfl
          | sliceO h1 _ _ => rw [ht] at h1; obtain rfl := Option.some.inj h1; rfl
          | sliceE _ _ => omega
          | sliceZ _ => omega
          | sliceV _ _ => omega
        have hds : li.toArray.size = n := by simpa using hlin
        have hH : Holds (Value.int .i64) w t.blk (t.sh + o) li.toArray := by
          intro j hj
          have hjn : j < n := by omega
          have hjl : j < li.length := by omega
          have hcj : c[o + j]? = some (.int .i64 li[j]) := by
            have : ((c.drop o).take n)[j]? = (li.map (Value.int .i64))[j]? := by rw [hrow'.2]
            rw [List.getElem?_take_of_lt hjn, List.getElem?_drop, List.getElem?_map, List.getElem?_eq_getElem hjl] at this
            exact this
          obtain ⟨_, v', h1, h2⟩ := hcells (o + j) _ hcj
          have : v' = .int .i64 li[j] := by cases h2; rfl
          subst this
          refine ⟨?_, by rw [frozen_of_row w t.blk (t.sh + o + j) rc el hgw]⟩
          have e : li.toArray[j]! = li[j] := by rw [getElem!_pos _ _ (by simpa using hjl)]; rfl
          rw [Nat.add_assoc, h1, e]
        have := Proofs.Any.slices_SortFunc_total L (Value.int .i64) (fun _ => rfl) Lib.compareInt swoC g' #[] t.blk (t.sh + o) c' li.toArray w eg
          (Proofs.CmpReads.lays fun m os dk hs x y => hcmp x y _) hH hbl (by omega) (fun x y h1 h2 => by rw [ltC] at h1 h2; simp at h1 h2; omega)
        rw [hk, hds] at this
        refine this.mono ?_
        rintro e w' ⟨rfl, m, os, rfl⟩
        rw [sortC]
        refine ⟨_, List.mem_cons_self, φ, _, rfl, ?_, .tuple rfl (by simp)⟩
        have hval : VRs φ ((sortI li).map (Value.int .i64)) ((sortI li).map (Value.int .i64)) := VRs_ints φ _
        have hcap : t.sh + o + (sortI li).length ≤ rc.size := by rw [hsl, hlin]; omega
        refine st_good hrel ht hval (by simp only [List.all_eq_true, List.mem_map]; rintro v ⟨y, _, rfl⟩; rfl) hst hgw ?_ ?_ rfl rfl rfl ?_
        · unfold Proofs.sortWorld
          rw [heap_grow_old _ _ (by simpa [putRow, mapBlock, ahead] using hbl)]
          rw [← putCells_setL _ _ _ hcap]
          simp [putRow, mapBlock, ahead, Array.getElem?_modify, hgw, onCells]
        · intro k hk1 hk2
          unfold Proofs.sortWorld
          rw [heap_grow_old _ _ (by simpa [putRow, mapBlock, ahead] using hk1)]
          simp [putRow, mapBlock, ahead, Array.getElem?_modify, Ne.symm hk2]
        · simp [Proofs.sortWorld, Sort.grow, putRow, mapBlock, ahead]
      · cases hl
  · cases hl
end Go.Lg

namespace Go.Lg
open Go
set_option linter.unusedVariables false
set_option linter.unusedSimpArgs false
/-! as lists of pairs -/
def alook (l : List (Int × Int)) (i : Int) : Option Int := match l with
  | [] => none
  | p :: l => if p.1 = i then some p.2 else alook l i
def aputL (l : List (Int × Int)) (i v : Int) : List (Int × Int) := match l with
  | [] => [(i, v)]
  | p :: l => if p.1 = i then (i, v) :: l else p :: aputL l i v
def adelL (l : List (Int × Int)) (i : Int) : List (Int × Int) := match l with
  | [] => []
  | p :: l => if p.1 = i then l else p :: adelL l i
def aok (v : Option Int) : Bool := v.isSome
def aval (v : Option Int) : Int := v.getD 0
theorem alook_put (i v : Int) : ∀ (l : List (Int × Int)) (j : Int), alook (aputL l i v) j = if i = j then some v else alook l j
  | [], j => by simp [aputL, alook]
  | p :: l, j => by
    unfold aputL
    by_cases h : p.1 = i
    · rw [if_pos h]
      by_cases h2 : i = j
      · simp [alook, h2]
      · have : ¬ p.1 = j := fun e => h2 (h.symm.trans e)
        simp [alook, h2, this]
    · rw [if_neg h]
      by_cases h2 : p.1 = j
      · have : ¬ i = j := fun e => h (h2.trans e.symm)
        simp [alook, h2, this]
      · simp only [alook, if_neg h2]; exact alook_put i v l j
def Nk (l : List (Int × Int)) : Prop := (l.map Prod.fst).Nodup
theorem alook_none {l : List (Int × Int)} {i : Int} (h : i ∉ l.map Prod.fst) : alook l i = none := by
  induction l with
  | nil => rfl
  | cons p l ih =>
    simp only [List.map_cons, List.mem_cons, not_or] at h
    unfold alook
    rw [if_neg (fun e => h.1 e.symm)]; exact ih h.2
theorem alook_mem {l : List (Int × Int)} {i : Int} : (∃ v, alook l i = some v) ↔ i ∈ l.map Prod.fst := by
  induction l with
  | nil => simp [alook]
  | cons p l ih =>
    unfold alook
    by_cases h : p.1 = i
    · simp [h]
    · rw [if_neg h, ih]
      simp [Ne.symm h]
theorem keys_put (i v : Int) : ∀ l : List (Int × Int), (aputL l i v).map Prod.fst = if i ∈ l.map Prod.fst then l.map Prod.fst else l.map Prod.fst ++ [i]
  | [] => by simp [aputL]
  | p :: l => by
    unfold aputL
    by_cases h : p.1 = i
    · subst h; simp
    · rw [if_neg h, List.map_cons, keys_put i v l, List.map_cons]
      by_cases h2 : i ∈ l.map Prod.fst
      · rw [if_pos h2, if_pos (List.mem_cons_of_mem _ h2)]
      · rw [if_neg h2, if_neg (fun e => by rcases List.mem_cons.mp e with e | e; exact h e.symm; exact h2 e)]; rfl
theorem Nk.put {l : List (Int × Int)} (h : Nk l) (i v : Int) : Nk (aputL l i v) := by
  unfold Nk at *
  rw [keys_put]
  split
  · exact h
  · rename_i hn
    rw [List.nodup_append]
    exact ⟨h, by simp, fun a ha b hb e => by simp at hb; subst hb; subst e; exact hn ha⟩
theorem len_put (l : List (Int × Int)) (i v : Int) : (aputL l i v).length = if aok (alook l i) then l.length else l.length + 1 := by
  have h1 := congrArg List.length (keys_put i v l)
  rw [List.length_map] at h1
  by_cases h : i ∈ l.map Prod.fst
  · obtain ⟨w, hw⟩ := alook_mem.mpr h
    rw [if_pos h, List.length_map] at h1
    rw [h1, hw]; rfl
  · rw [if_neg h] at h1
    rw [alook_none h, h1]; simp [aok]
theorem keys_del (i : Int) : ∀ l : List (Int × Int), (adelL l i).map Prod.fst = (l.map Prod.fst).erase i
  | [] => rfl
  | p :: l => by
    unfold adelL
    by_cases h : p.1 = i
    · rw [if_pos h, List.map_cons, h, List.erase_cons_head]
    · rw [if_neg h, List.map_cons, List.map_cons, List.erase_cons_tail (by simpa using h), keys_del i l]
theorem Nk.del {l : List (Int × Int)} (h : Nk l) (i : Int) : Nk (adelL l i) := by
  unfold Nk at *
  rw [keys_del]
  exact h.erase i
theorem alook_del {l : List (Int × Int)} (h : Nk l) (i j : Int) : alook (adelL l i) j = if i = j then none else alook l j := by
  induction l with
  | nil => simp [adelL, alook]
  | cons p l ih =>
    unfold Nk at h
    rw [List.map_cons, List.nodup_cons] at h
    unfold adelL
    by_cases h1 : p.1 = i
    · rw [if_pos h1]
      by_cases h2 : i = j
      · rw [if_pos h2]
        exact alook_none (by rw [← h2, ← h1]; exact h.1)
      · rw [if_neg h2]
        have : ¬ p.1 = j := fun e => h2 (h1.symm.trans e)
        simp [alook, this]
    · rw [if_neg h1]
      by_cases h2 : p.1 = j
      · have : ¬ i = j := fun e => h1 (h2.trans e.symm)
        simp [alook, h2, this]
      · simp only [alook, if_neg h2]; exact ih h.2
/-! in memory -/
def prI (e : MapEntry) : Value × Value := (e.key, e.val)
def encPr (p : Int × Int) : Value × Value := (.int .i64 p.1, .int .i64 p.2)
structure MI (h : AH) (r : Nat) (l : List (Int × Int)) : Prop where
  ex : ∃ es clk, h.get r = some (.map es clk) ∧ es.map prI = l.map encPr ∧ (∀ e ∈ es, e.born < clk) ∧ (es.map (·.born)).Nodup
  nk : Nk l
  lt : r < h.n
theorem MI.same {h h' : AH} {r : Nat} {l : List (Int × Int)} (hm : MI h r l) (hg : h'.get r = h.get r) (hn : h.n ≤ h'.n) : MI h' r l := by
  obtain ⟨es, clk, h1, h2⟩ := hm.ex
  exact ⟨⟨es, clk, by rw [hg]; exact h1, h2⟩, hm.nk, Nat.lt_of_lt_of_le hm.lt hn⟩
theorem MI.new (h : AH) : MI (h.push (.map [] 0)) h.n [] := ⟨⟨[], 0, AH.get_push_eq _ _, rfl, fun e he => by simp at he, by simp⟩, by simp [Nk], by show h.n < h.n + 1; omega⟩
theorem ent_keys : ∀ {es : List MapEntry} {l : List (Int × Int)}, es.map prI = l.map encPr → keysOk (.int .i64) es = true
  | [], _, _ => rfl
  | e :: es, [], h => by simp at h
  | e :: es, p :: l, h => by
    simp only [List.map_cons, List.cons.injEq, prI, encPr, Prod.mk.injEq] at h
    simp only [keysOk, List.all_cons, h.1.1, keyOk, Bool.and_eq_true]
    exact ⟨rfl, ent_keys h.2⟩
theorem ent_len {es : List MapEntry} {l : List (Int × Int)} (h : es.map prI = l.map encPr) : es.length = l.length := by
  have := congrArg List.length h
  simpa using this
theorem afind_look (i : Int) : ∀ {es : List MapEntry} {l : List (Int × Int)} (k : Nat), es.map prI = l.map encPr → (afind (.int .i64 i) es k).map (·.2) = (alook l i).map (Value.int .i64)
  | [], [], k, _ => rfl
  | [], p :: l, k, h => by simp at h
  | e :: es, [], k, h => by simp at h
  | e :: es, p :: l, k, h => by
    simp only [List.map_cons, List.cons.injEq, prI, encPr, Prod.mk.injEq] at h
    obtain ⟨⟨h1, h2⟩, h3⟩ := h
    simp only [afind, alook, h1, keqB]
    by_cases hc : p.1 = i
    · have : (IntKind.i64 == IntKind.i64 && decide (i = p.1)) = true := by rw [hc]; simp
      rw [this, cond_true, if_pos hc, h2]; rfl
    · have : (IntKind.i64 == IntKind.i64 && decide (i = p.1)) = false := by simp [Ne.symm hc]
      rw [this, cond_false, if_neg hc]
      exact afind_look i (k + 1) h3
theorem MI.map {h : AH} {r : Nat} {l : List (Int × Int)} (hm : MI h r l) : ∃ es, mapOf h (.map (some r)) = some es ∧ es.length = l.length ∧ es.map prI = l.map encPr := by
  obtain ⟨es, clk, h1, h2, _⟩ := hm.ex
  exact ⟨es, by simp only [mapOf, h1], ent_len h2, h2⟩
theorem look_eq {P : Program} {e : TypeId} (hz : zeroOf P e = some (.int .i64 0)) {es : List MapEntry} {l : List (Int × Int)} (h : es.map prI = l.map encPr) (i : Int) : lookE P (.int .i64) e (.int .i64 i) es = some (.int .i64 (aval (alook l i)), aok (alook l i)) := by
  have hk : (keyOk (.int .i64) (.int .i64 i) && keysOk (.int .i64) es) = true := by rw [ent_keys h]; rfl
  have hf := afind_look i 0 h
  simp only [lookE, hk, cond_true]
  cases ha : afind (.int .i64 i) es 0 with
  | none =>
    rw [ha] at hf
    cases hl : alook l i with
    | none => simp [hz, aval, aok]
    | some v => rw [hl] at hf; simp at hf
  | some p =>
    rw [ha] at hf
    cases hl : alook l i with
    | none => rw [hl] at hf; simp at hf
    | some v =>
      rw [hl] at hf
      simp at hf
      simp [hf, aval, aok]
theorem putE_eq (i v : Int) (clk : Nat) {es : List MapEntry} {l : List (Int × Int)} (h : es.map prI = l.map encPr) : (putE (.int .i64 i) (.int .i64 v) es clk).1.map prI = (aputL l i v).map encPr ∧
    ((∀ e ∈ es, e.born < clk) → (es.map (·.born)).Nodup → (∀ e ∈ (putE (.int .i64 i) (.int .i64 v) es clk).1, e.born < (putE (.int .i64 i) (.int .i64 v) es clk).2) ∧ ((putE (.int .i64 i) (.int .i64 v) es clk).1.map (·.born)).Nodup) := by
  have key : ∀ (es : List MapEntry) (l : List (Int × Int)) (k : Nat), es.map prI = l.map encPr → match afind (.int .i64 i) es k with
      | some p => k ≤ p.1 ∧ (es.modify (p.1 - k) (fun e => { e with key := .int .i64 i, val := .int .i64 v })).map prI = (aputL l i v).map encPr
      | none => es.map prI ++ [(.int .i64 i, .int .i64 v)] = (aputL l i v).map encPr := by
    intro es
    induction es with
    | nil =>
      intro l k h
      cases l with
      | nil => simp [afind, aputL, encPr]
      | cons p l => simp at h
    | cons e es ih =>
      intro l k h
      cases l with
      | nil => simp at h
      | cons p l =>
        simp only [List.map_cons, List.cons.injEq, prI, encPr, Prod.mk.injEq] at h
        obtain ⟨⟨h1, h2⟩, h3⟩ := h
        simp only [afind, h1, keqB]
        by_cases hc : p.1 = i
        · have hb : (IntKind.i64 == IntKind.i64 && decide (i = p.1)) = true := by rw [hc]; simp
          rw [hb, cond_true]
          unfold aputL
          rw [if_pos hc]
          refine ⟨Nat.le_refl _, ?_⟩
          simp [prI, encPr, h3]
        · have hb : (IntKind.i64 == IntKind.i64 && decide (i = p.1)) = false := by simp [Ne.symm hc]
          rw [hb, cond_false]
          have := ih l (k + 1) h3
          unfold aputL
          rw [if_neg hc]
          split at this
          · rename_i q hq
            obtain ⟨t1, t2⟩ := this
            refine ⟨by omega, ?_⟩
            have e1 : q.1 - k = (q.1 - (k + 1)) + 1 := by omega
            rw [e1, List.modify_succ_cons, List.map_cons, List.map_cons, t2]
            simp [prI, encPr, h1, h2]
          · simp only [List.map_cons, List.cons_append]
            rw [this]
            simp [prI, encPr, h1, h2]
  have := key es l 0 h
  unfold putE
  cases ha : afind (.int .i64 i) es 0 with
  | none =>
    rw [ha] at this
    simp only at this ⊢
    refine ⟨by rw [List.map_append]; exact this, fun hb hn => ⟨fun e he => ?_, ?_⟩⟩
    · rcases List.mem_append.mp he with he | he
      · have := hb e he; omega
      · simp at he; subst he; simp
    · rw [List.map_append, List.nodup_append]
      refine ⟨hn, by simp, fun a ha b hb' e => ?_⟩
      obtain ⟨x, hx, rfl⟩ := List.mem_map.mp ha
      simp at hb'
      have := hb x hx
      omega
  | some p =>
    rw [ha] at this
    simp only at this ⊢
    refine ⟨by simpa using this.2, fun hb hn => ?_⟩
    have hborn : (es.modify p.1 (fun e => { e with key := .int .i64 i, val := .int .i64 v })).map (·.born) = es.map (·.born) := by
      apply List.ext_getElem?
      intro k
      rw [List.getElem?_map, List.getElem?_modify, List.getElem?_map]
      cases es[k]? with
      | none => simp
      | some x => by_cases e : p.1 = k <;> simp [e]
    refine ⟨fun e he => ?_, by rw [hborn]; exact hn⟩
    have : e.born ∈ (es.modify p.1 (fun e => { e with key := .int .i64 i, val := .int .i64 v })).map (·.born) := List.mem_map.mpr ⟨e, he, rfl⟩
    rw [hborn] at this
    obtain ⟨x, hx, e2⟩ := List.mem_map.mp this
    have := hb x hx
    omega
theorem MI.put {h : AH} {r : Nat} {l : List (Int × Int)} (hm : MI h r l) (i v : Int) : ∃ h', aput (.int .i64) (.map (some r)) (.int .i64 i) (.int .i64 v) h = some h' ∧ MI h' r (aputL l i v) ∧ h'.n = h.n ∧ ∀ b, b ≠ r → h'.get b = h.get b := by
  obtain ⟨es, clk, h1, h2, h3, h4⟩ := hm.ex
  obtain ⟨q1, q2⟩ := putE_eq i v clk h2
  obtain ⟨q3, q4⟩ := q2 h3 h4
  have hk : (keyOk (.int .i64) (.int .i64 i) && keysOk (.int .i64) es) = true := by rw [ent_keys h2]; rfl
  refine ⟨_, by simp only [aput, h1, hk, cond_true], ⟨⟨_, _, AH.get_set_eq _ _ _, q1, q3, q4⟩, hm.nk.put i v, hm.lt⟩, rfl, fun b hb => AH.get_set_ne _ hb⟩
theorem delE_eq (i : Int) : ∀ {es : List MapEntry} {l : List (Int × Int)}, es.map prI = l.map encPr → (delE (.int .i64 i) es).map prI = (adelL l i).map encPr ∧ (delE (.int .i64 i) es).Sublist es := by
  have key : ∀ (es : List MapEntry) (l : List (Int × Int)) (k : Nat), es.map prI = l.map encPr → match afind (.int .i64 i) es k with
      | some p => k ≤ p.1 ∧ (es.eraseIdx (p.1 - k)).map prI = (adelL l i).map encPr
      | none => es.map prI = (adelL l i).map encPr := by
    intro es
    induction es with
    | nil =>
      intro l k h
      cases l with
      | nil => simp [afind, adelL]
      | cons p l => simp at h
    | cons e es ih =>
      intro l k h
      cases l with
      | nil => simp at h
      | cons p l =>
        simp only [List.map_cons, List.cons.injEq, prI, encPr, Prod.mk.injEq] at h
        obtain ⟨⟨h1, h2⟩, h3⟩ := h
        simp only [afind, h1, keqB]
        by_cases hc : p.1 = i
        · have hb : (IntKind.i64 == IntKind.i64 && decide (i = p.1)) = true := by rw [hc]; simp
          rw [hb, cond_true]
          unfold adelL
          rw [if_pos hc]
          exact ⟨Nat.le_refl _, by simpa [prI, encPr] using h3⟩
        · have hb : (IntKind.i64 == IntKind.i64 && decide (i = p.1)) = false := by simp [Ne.symm hc]
          rw [hb, cond_false]
          have := ih l (k + 1) h3
          unfold adelL
          rw [if_neg hc]
          split at this
          · rename_i q hq
            obtain ⟨t1, t2⟩ := this
            refine ⟨by omega, ?_⟩
            have e1 : q.1 - k = (q.1 - (k + 1)) + 1 := by omega
            rw [e1, List.eraseIdx_cons_succ, List.map_cons, List.map_cons, t2]
            simp [prI, encPr, h1, h2]
          · simp only [List.map_cons]
            rw [this]
            simp [prI, encPr, h1, h2]
  intro es l h
  have := key es l 0 h
  unfold delE
  cases ha : afind (.int .i64 i) es 0 with
  | none => rw [ha] at this; exact ⟨this, List.Sublist.refl _⟩
  | some p => rw [ha] at this; exact ⟨by simpa using this.2, List.eraseIdx_sublist _ _⟩
theorem MI.del {h : AH} {r : Nat} {l : List (Int × Int)} (hm : MI h r l) (i : Int) : ∃ h', adel (.int .i64) (.map (some r)) (.int .i64 i) h = some h' ∧ MI h' r (adelL l i) ∧ h'.n = h.n ∧ ∀ b, b ≠ r → h'.get b = h.get b := by
  obtain ⟨es, clk, h1, h2, h3, h4⟩ := hm.ex
  obtain ⟨q1, q2⟩ := delE_eq i h2
  have hk : (keyOk (.int .i64) (.int .i64 i) && keysOk (.int .i64) es) = true := by rw [ent_keys h2]; rfl
  exact ⟨_, by simp only [adel, h1, hk, cond_true], ⟨⟨_, _, AH.get_set_eq _ _ _, q1, fun e he => h3 e (q2.subset he), h4.sublist (q2.map _)⟩, hm.nk.del i, hm.lt⟩, rfl, fun b hb => AH.get_set_ne _ hb⟩
end Go.Lg

namespace Go.Lg
open Go
set_option linter.unusedVariables false
set_option linter.unusedSimpArgs false
theorem T.setF_setF {α : Type} (a b : Option α) : ∀ (n : Nat) (t : T α) (k : Nat), k < n → T.setF n (T.setF n t k a) k b = T.setF n t k b := by
  intro n
  induction n with
  | zero => intro t k h; omega
  | succ n ih =>
    intro t k hk
    cases t with
    | nil =>
      simp only [T.setF]
      cases h0 : Nat.beq k 0 with
      | true => simp [h0, T.setF]
      | false =>
        have hk0 : k ≠ 0 := fun e => by subst e; cases h0
        cases h1 : Nat.beq (k % 2) 1 with
        | true => simp only [cond_false, cond_true, T.setF, h0, h1]; rw [ih _ _ (by omega)]
        | false => simp only [cond_false, T.setF, h0, h1]; rw [ih _ _ (by omega)]
    | node v l r =>
      simp only [T.setF]
      cases h0 : Nat.beq k 0 with
      | true => simp [h0, T.setF]
      | false =>
        have hk0 : k ≠ 0 := fun e => by subst e; cases h0
        cases h1 : Nat.beq (k % 2) 1 with
        | true => simp only [cond_false, cond_true, T.setF, h0, h1]; rw [ih _ _ (by omega)]
        | false => simp only [cond_false, T.setF, h0, h1]; rw [ih _ _ (by omega)]
theorem AH.push_set (h : AH) (x y : Blk) : (h.push x).set h.n (some y) = h.push y := by
  show (⟨h.n + 1, _⟩ : AH) = ⟨h.n + 1, _⟩
  congr 1
  show T.setF _ (T.setF _ _ _ _) _ _ = T.setF _ _ _ _
  exact T.setF_setF _ _ _ _ _ (by omega)
theorem nodupN_of : ∀ {l : List Nat}, l.Nodup → nodupN l = true
  | [], _ => rfl
  | x :: l, h => by
    rw [List.nodup_cons] at h
    simp only [nodupN, Bool.and_eq_true, List.all_eq_true]
    refine ⟨fun y hy => ?_, nodupN_of h.2⟩
    have : x ≠ y := fun e => h.1 (e ▸ hy)
    have h2 : Nat.beq x y = false := by
      cases hq : Nat.beq x y with
      | false => rfl
      | true => exact absurd (Nat.eq_of_beq_eq_true hq) this
    rw [h2]; rfl
theorem nodupI_of : ∀ {l : List Int}, l.Nodup → nodupI l = true
  | [], _ => rfl
  | x :: l, h => by
    rw [List.nodup_cons] at h
    simp only [nodupI, Bool.and_eq_true, List.all_eq_true]
    refine ⟨fun y hy => ?_, nodupI_of h.2⟩
    have : x ≠ y := fun e => h.1 (e ▸ hy)
    simpa using this
theorem keysI_of : ∀ {es : List MapEntry} {l : List (Int × Int)}, es.map prI = l.map encPr → keysI es = some (l.map Prod.fst)
  | [], [], _ => rfl
  | [], p :: l, h => by simp at h
  | e :: es, [], h => by simp at h
  | e :: es, p :: l, h => by
    simp only [List.map_cons, List.cons.injEq, prI, encPr, Prod.mk.injEq] at h
    simp only [keysI, h.1.1, keyI, Option.bind_some, keysI_of h.2, List.map_cons]
def Wk (l : List Int) : Prop := ∀ x ∈ l, (Lit.int .i64 x).wf = true
theorem collect_eq {fks : List Nat} {fk : Nat} (hfk : fks.any (Nat.beq fk) = true) {h : AH} {bx r : Nat} {l : List (Int × Int)} (hb : h.get bx = some (.cells [.map (some r)] false false 1)) (hm : MI h r l) (hw : Wk (l.map Prod.fst)) (hl : l.length ≤ 1000000) :
    collectF fks [.func (.func fk) ⟨[]⟩ ⟨[.pointer (some ⟨bx, 0, none⟩)]⟩] h = some ((permsL (l.map Prod.fst)).map (outC h)) := by
  obtain ⟨es, clk, h1, h2, h3, h4⟩ := hm.ex
  have e1 : colMap h bx = some (some r) := by simp only [colMap, hb]
  have hco : collectOk es clk (l.map Prod.fst) = true := by
    simp only [collectOk, Bool.and_eq_true]
    refine ⟨Nat.ble_eq_true_of_le (by rw [ent_len h2]; exact hl), ?_, nodupN_of h4, nodupI_of hm.nk, ?_⟩
    · rw [List.all_eq_true]; intro e he; exact Nat.ble_eq_true_of_le (h3 e he)
    · rw [List.all_eq_true]; exact hw
  have e2 : colKeys h r = some (l.map Prod.fst) := by
    simp only [colKeys, h1, keysI_of h2, Option.bind_some, hco, cond_true]
  simp only [collectF, colArg, Option.bind_some, hfk, cond_true, e1, e2]
theorem sortI_perm {l m : List Int} (h : l.Perm m) : sortI l = sortI m := mergeSort_of_perm_i h
theorem sortI_len (l : List Int) : (sortI l).length = l.length := List.length_mergeSort _
theorem sortI_mem {l : List Int} {x : Int} : x ∈ sortI l ↔ x ∈ l := (List.mergeSort_perm l _).mem_iff
theorem sort_eq (kg : FuncId) {h : AH} {b c : Nat} {l : List Int} (hb : h.get b = some (.cells (l.map (Value.int .i64)) true false 1)) (hl : l.length ≤ 1000000) (hne : l ≠ []) :
    sortF kg [.slice (some ⟨b, 0, none⟩) l.length c, .func (.func kg) ⟨[]⟩ ⟨[]⟩] h = some [(.tuple #[], h.set b (some (.cells ((sortI l).map (Value.int .i64)) true false 1)))] := by
  have h0 : Nat.beq l.length 0 = false := by
    cases l with
    | nil => exact absurd rfl hne
    | cons _ _ => rfl
  have h1 : Nat.ble l.length 1000000 = true := Nat.ble_eq_true_of_le hl
  have hrow : ldRow h b 0 l.length = some (l.map (Value.int .i64)) := by
    simp only [ldRow, hb, List.length_map, Nat.zero_add, List.drop_zero]
    rw [Nat.ble_eq_true_of_le (Nat.le_refl _), cond_true, List.take_of_length_le (by simp)]
  have hst : h.st b 0 ((sortI l).map (Value.int .i64)) = some (h.set b (some (.cells ((sortI l).map (Value.int .i64)) true false 1))) := by
    rw [AH.st_of hb (by simp [sortI_len]), setL_all (by simp [sortI_len])]
  have hg : Nat.beq kg kg = true := Nat.beq_refl _
  simp only [sortF, hg, cond_true, h0, cond_false, h1, hrow, Option.bind_some, rowI_of, hst]
theorem sort_nil (kg : FuncId) {h : AH} {a : Option Addr} {c : Nat} : sortF kg [.slice a 0 c, .func (.func kg) ⟨[]⟩ ⟨[]⟩] h = some [(.tuple #[], h)] := by
  have hg : Nat.beq kg kg = true := Nat.beq_refl _
  have h0 : Nat.beq 0 0 = true := rfl
  simp only [sortF, hg, cond_true, h0]
theorem allR_one (r : Res) : allR [r] = r := rfl
theorem bnd {i : Int} {k top : Nat} (hi : i = k) (ht : k ≤ top) (k0 : IntKind) (d : Nat) (K : Nat → Res) : boundOf (some (.int k0 i)) d top K = K k := by
  subst hi
  simp only [boundOf, inBe_t (show (0 : Int) ≤ (k : Int) by omega) (show (k : Int) ≤ (top : Nat) by omega), cond_t, Int.toNat_natCast]
theorem bnd0 (d top : Nat) (K : Nat → Res) : boundOf none d top K = K d := rfl
theorem blt_opn : Nat.blt opn opn = false := by show Nat.blt 4611686018427387904 4611686018427387904 = false; rfl
theorem blt_small {n : Nat} (h : n < 4611686018427387904) : Nat.blt n opn = true := Nat.ble_eq_true_of_le (show n + 1 ≤ 4611686018427387904 by omega)
/-- the first k of a slice that is one's own -/
theorem OwS.cut {h : AH} {sz : Nat} (hsz : 0 < sz) {a : Option Addr} {n c : Nat} {cs : List Value} (ho : OwS h sz a n c cs) {k : Nat} (hk : k ≤ n) {i : Int} (hi : i = k) :
    slcE sz a n c none (some (.int .i64 i)) none h = some (.slice a k c, h) ∧ OwS h sz a k c (cs.take (k * sz)) := by
  cases ho with
  | nil =>
    obtain rfl : k = 0 := by omega
    refine ⟨?_, by simpa using OwS.nil⟩
    simp only [slcE, Nat.beq_refl, Bool.and_self, cond_t]
    rw [bnd (k := 0) hi (Nat.le_refl _), bnd0]
  | @mk b _ m _ rest hb hl hr hn =>
    have hb10 : Nat.beq sz 0 = false := by
      cases hq : Nat.beq sz 0 with
      | false => rfl
      | true => have := Nat.eq_of_beq_eq_true hq; omega
    have hkn : k * sz ≤ n * sz := Nat.mul_le_mul_right _ hk
    refine ⟨?_, .mk (rest := cs.drop (k * sz) ++ rest) (m := n - k + m) ?_ ?_ ?_ hn⟩
    · simp only [slcE, blt_opn, cond_f, hb10, hb, Nat.beq_refl, cond_t]
      rw [bnd hi (by rw [List.length_append, hl, Nat.sub_zero, hr, ← Nat.add_mul, Nat.mul_div_cancel _ hsz]; omega), bnd0, Nat.zero_mul, Nat.sub_zero]
    · rw [← List.append_assoc, List.take_append_drop]; exact hb
    · rw [List.length_take, hl]; omega
    · rw [List.length_append, List.length_drop, hl, hr, Nat.add_mul, Nat.sub_mul]
end Go.Lg
