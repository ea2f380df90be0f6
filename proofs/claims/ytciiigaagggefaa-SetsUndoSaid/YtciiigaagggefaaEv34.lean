/- Soundness of the evaluator. Part 34: slices.Collect(maps.Keys(m)): the keys in every order. -/
import Derived.Test.YtciiigaagggefaaEv26
import Derived.Shelf.SlIterI.Collect
import Derived.Shelf.SlIterI.Nil
import Derived.CallsIn
import Derived.Below
namespace Go.Lg
open Go Go.Maps
open Go.RowKit (Below)
set_option linter.unusedVariables false

def insAll (x : Int) : List Int → List (List Int)
  | [] => [[x]]
  | y :: l => (x :: y :: l) :: (insAll x l).map (y :: ·)
def permsL : List Int → List (List Int)
  | [] => [[]]
  | x :: l => (permsL l).flatMap (insAll x)
theorem mem_insAll (x : Int) : ∀ (a b : List Int), a ++ x :: b ∈ insAll x (a ++ b)
  | [], [] => by simp [insAll]
  | [], y :: l => by simp [insAll]
  | y :: a, b => by
    simp only [List.cons_append, insAll, List.mem_cons, List.mem_map]
    exact .inr ⟨_, mem_insAll x a b, rfl⟩
theorem mem_permsL : ∀ {l l' : List Int}, l'.Perm l → l' ∈ permsL l
  | [], l', h => by have := h.eq_nil; subst this; simp [permsL]
  | x :: l, l', h => by
    have hx : x ∈ l' := h.symm.subset (by simp)
    obtain ⟨a, b, rfl⟩ := List.append_of_mem hx
    have h2 : (a ++ b).Perm l := by
      have := (List.perm_middle.symm.trans h)
      exact List.Perm.cons_inv this
    simp only [permsL, List.mem_flatMap]
    exact ⟨_, mem_permsL h2, mem_insAll x a b⟩
theorem insAll_perm (x : Int) : ∀ (l m : List Int), m ∈ insAll x l → m.Perm (x :: l)
  | [], m, h => by simp [insAll] at h; subst h; exact .refl _
  | y :: l, m, h => by
    simp only [insAll, List.mem_cons, List.mem_map] at h
    rcases h with rfl | ⟨k, hk, rfl⟩
    · exact .refl _
    · exact ((insAll_perm x l k hk).cons y).trans (List.Perm.swap x y l)
theorem permsL_perm : ∀ {l m : List Int}, m ∈ permsL l → m.Perm l
  | [], m, h => by simp [permsL] at h; subst h; exact .refl _
  | x :: l, m, h => by
    simp only [permsL, List.mem_flatMap] at h
    obtain ⟨k, hk, hm⟩ := h
    exact (insAll_perm x k m hm).trans ((permsL_perm hk).cons x)

def keyI : Value → Option Int
  | .int .i64 x => some x
  | _ => none
def keysI : List MapEntry → Option (List Int)
  | [] => some []
  | e :: es => (keyI e.key).bind fun x => (keysI es).bind fun l => some (x :: l)
def nodupN : List Nat → Bool
  | [] => true
  | x :: l => l.all (fun y => !Nat.beq x y) && nodupN l
def nodupI : List Int → Bool
  | [] => true
  | x :: l => l.all (fun y => !decide (x = y)) && nodupI l
theorem nodupN_ok : ∀ {l : List Nat}, nodupN l = true → l.Nodup
  | [], _ => List.nodup_nil
  | x :: l, h => by
    simp only [nodupN, Bool.and_eq_true, List.all_eq_true] at h
    refine List.nodup_cons.mpr ⟨fun hm => ?_, nodupN_ok h.2⟩
    have := h.1 x hm
    rw [Nat.beq_refl] at this
    cases this
theorem nodupI_ok : ∀ {l : List Int}, nodupI l = true → l.Nodup
  | [], _ => List.nodup_nil
  | x :: l, h => by
    simp only [nodupI, Bool.and_eq_true, List.all_eq_true] at h
    refine List.nodup_cons.mpr ⟨fun hm => ?_, nodupI_ok h.2⟩
    have := h.1 x hm
    simp at this
def collectOk (es : List MapEntry) (clk : Nat) (ks : List Int) : Bool :=
  Nat.ble es.length 1000000 && (es.all (fun e => Nat.blt e.born clk) && (nodupN (es.map (·.born)) && (nodupI ks && ks.all (fun x => (Lit.int .i64 x).wf))))
def outC (h : AH) : List Int → Value × AH
  | [] => (.slice none 0 0, h)
  | x :: l => (.slice (some ⟨h.n, 0, none⟩) (x :: l).length opn, h.push (.cells ((x :: l).map (Value.int .i64)) true false 1))
def colArg : List Value → Option (FuncId × Nat)
  | [.func (.func g) ⟨[]⟩ ⟨[.pointer (some ⟨ab, 0, none⟩)]⟩] => some (g, ab)
  | _ => none
def colMap (h : AH) (ab : Nat) : Option (Option Nat) := match h.get ab with
  | some (.cells [.map m] false false _) => some m
  | _ => none
def colKeys (h : AH) (r : Nat) : Option (List Int) := match h.get r with
  | some (.map es clk) => (keysI es).bind fun ks => cond (collectOk es clk ks) (some ks) none
  | _ => none
def collectF (fks : List Nat) (vs : List Value) (h : AH) : Option (List (Value × AH)) :=
  (colArg vs).bind fun p => cond (fks.any (Nat.beq p.1)) ((colMap h p.2).bind fun m => match m with
    | none => some [(.slice none 0 0, h)]
    | some r => (colKeys h r).bind fun ks => some ((permsL ks).map (outC h))) none
def colS (kc : Nat) (fks : List Nat) : SumEv := fun f => cond (Nat.beq f kc) (some (collectF fks)) none

/-- a block that came to be behind a world's end -/
theorem push_at {φ : Emb} {h : AH} {w w' : World} (hr : HRel φ h w) (hb : Below w.heap.size w w') {g : Nat} {cur : Array Value} {el : TypeId} (hg : w'.heap[g]? = some (.cells cur el (0, 0))) (hgw : w.heap.size ≤ g)
    {c rc : List Value} {esz : Nat} (hv : VRs φ c rc) (hrc : cur.toList.take c.length = rc) (hok : c.all cellOk = true) (op : Bool) :
    Good φ w (h.push (.cells c op false esz)) w' (grow φ h.n ⟨g, 0, cur.size, esz, false⟩) := by
  have hsub := grow_sub hr ⟨g, 0, cur.size, esz, false⟩
  have hlen := hv.length
  have hgl : g < w'.heap.size := (Array.getElem?_eq_some_iff.mp hg).1
  have hcl : c.length ≤ cur.size := by
    have := congrArg List.length hrc
    rw [List.length_take, Array.length_toList (xs := cur)] at this
    omega
  refine ⟨⟨hsub, fun b t hb => ?_⟩, ⟨hb.os, hb.tape, hb.output, hb.size, fun B hB _ => hb.block B hB⟩, ?_⟩
  · simp only [grow] at hb
    split at hb
    · obtain rfl := Option.some.inj hb; exact .inr (.inl hgw)
    · exact .inl hb
  · refine ⟨?_, ?_, ?_, ?_, ?_, ?_, ?_⟩
    · intro b t hb
      simp only [grow] at hb
      split at hb
      · rename_i e; simp [AH.push, e]
      · have := hr.lt b t hb; simp [AH.push]; omega
    · intro b t hb'
      simp only [grow] at hb'
      split at hb'
      · obtain rfl := Option.some.inj hb'; exact hgl
      · have := hr.blkLt b t hb'; have := hb.size; omega
    · intro b c' op' ro' esz' hb'
      rw [AH.get_push] at hb'
      by_cases e : b = h.n
      · subst e
        rw [if_pos rfl] at hb'
        simp only [Option.some.injEq, Blk.cells.injEq] at hb'
        obtain ⟨rfl, rfl, rfl, rfl⟩ := hb'
        refine ⟨_, grow_new φ h.n _, rfl, rfl, by simpa using hcl, fun _ => ⟨_, el, hg, by simp⟩, fun k v hk => ?_⟩
        rw [cell_of_row _ g _ _ el (0, 0) hg]
        obtain ⟨v', h1, h2⟩ := hv.get k v hk
        refine ⟨by rw [List.all_eq_true] at hok; exact hok _ (List.mem_of_getElem? hk), v', ?_, h2.mono hsub⟩
        simp only [Nat.zero_add]
        rw [← hrc, List.getElem?_take] at h1
        split at h1
        · rw [Array.getElem?_toList] at h1; exact h1
        · cases h1
      · rw [if_neg e] at hb'
        obtain ⟨t', g1, g2, g3, g4, g5, g6⟩ := hr.cells b c' op' ro' esz' hb'
        have hlt := hr.blkLt b t' g1
        refine ⟨t', hsub _ _ g1, g2, g3, g4, fun hf => by rw [hb.block _ hlt]; exact g5 hf, fun k v hk => ?_⟩
        obtain ⟨hc, v', h9, h10⟩ := g6 k v hk
        refine ⟨hc, v', ?_, h10.mono hsub⟩
        rw [← h9]
        simp only [World.cell?]
        rw [hb.block _ hlt]
    · intro b es clk hb'
      rw [AH.get_push] at hb'
      by_cases e : b = h.n
      · subst e; rw [if_pos rfl] at hb'; cases hb'
      · rw [if_neg e] at hb'
        obtain ⟨t', es', g1, g2, g3, g4⟩ := hr.maps b es clk hb'
        have hlt := hr.blkLt b t' g1
        exact ⟨t', es', hsub _ _ g1, g2, by rw [hb.block _ hlt]; exact g3, g4.len, fun i e e' h1 h2 => let ⟨a, b, c, d⟩ := g4.at_ i e e' h1 h2; ⟨a, b, c, d.mono hsub⟩⟩
    · intro b1 b2 x x' t1 t2 hx hx' h1 h2 he
      rw [AH.get_push] at hx hx'
      simp only [grow] at h1 h2
      by_cases e1 : b1 = h.n
      · by_cases e2 : b2 = h.n
        · exact .inl (e1.trans e2.symm)
        · rw [if_pos e1] at h1
          rw [if_neg e2] at h2
          obtain rfl := Option.some.inj h1
          have := hr.blkLt b2 t2 h2
          simp at he; omega
      · rw [if_neg e1] at h1 hx
        by_cases e2 : b2 = h.n
        · rw [if_pos e2] at h2
          obtain rfl := Option.some.inj h2
          have := hr.blkLt b1 t1 h1
          simp at he; omega
        · rw [if_neg e2] at h2 hx'
          exact hr.inj b1 b2 _ _ t1 t2 hx hx' h1 h2 he
    · intro b x hx
      rw [AH.get_push] at hx
      by_cases e : b = h.n
      · simp [AH.push, e]
      · rw [if_neg e] at hx
        have := hr.gets b x hx
        simp [AH.push]; omega
    · intro b c' esz' t' hx ht'
      rw [AH.get_push] at hx
      simp only [grow] at ht'
      by_cases e : b = h.n
      · rw [if_pos e] at ht'
        obtain rfl := Option.some.inj ht'
        rfl
      · rw [if_neg e] at hx ht'
        exact hr.sh0 _ _ _ _ hx ht'

def R0 : Value → Option (DataW Unit × List MemPlace) := fun _ => some (.nil, [])
theorem keysI_get : ∀ {es : List MapEntry} {ks : List Int}, keysI es = some ks → es.map (·.key) = ks.map (Value.int .i64)
  | [], ks, h => by simp only [keysI, Option.some.injEq] at h; subst h; rfl
  | e :: es, ks, h => by
    simp only [keysI, Option.bind_eq_some_iff] at h
    obtain ⟨x, hx, l, hl, h⟩ := h
    obtain rfl := Option.some.inj h
    have : e.key = .int .i64 x := by
      unfold keyI at hx
      split at hx
      · rename_i y hy; obtain rfl := Option.some.inj hx; exact hy
      · cases hx
    rw [List.map_cons, List.map_cons, keysI_get hl, this]
theorem insert_perm {H : Type} (x : Lit × DataW H) : ∀ l : List (Lit × DataW H), (DataW.insert x l).Perm (x :: l)
  | [] => .refl _
  | y :: r => by
    unfold DataW.insert
    split
    · exact .refl _
    · exact ((insert_perm x r).cons y).trans (List.Perm.swap x y r)
theorem sorted_perm {H : Type} : ∀ l : List (Lit × DataW H), (l.foldr DataW.insert []).Perm l
  | [] => .refl _
  | x :: l => (insert_perm x _).trans ((sorted_perm l).cons x)
theorem mapRel_keys {φ : Emb} {es es' : List MapEntry} (h : MapRel φ es es') : es'.map (·.key) = es.map (·.key) ∧ es'.map (·.born) = es.map (·.born) := by
  have key : ∀ (f : MapEntry → Value), (∀ (i : Nat) e e', es[i]? = some e → es'[i]? = some e' → f e' = f e) → es'.map f = es.map f := fun f hf => by
    apply List.ext_getElem?
    intro i
    rw [List.getElem?_map, List.getElem?_map]
    cases he : es[i]? with
    | none =>
      have : es'[i]? = none := by rw [List.getElem?_eq_none_iff] at he ⊢; rw [← h.len]; exact he
      rw [this]
    | some e =>
      obtain ⟨e', he'⟩ : ∃ e', es'[i]? = some e' := ⟨_, List.getElem?_eq_getElem (by rw [← h.len]; exact (List.getElem?_eq_some_iff.mp he).1)⟩
      rw [he']; simp [hf i e e' he he']
  refine ⟨key (·.key) fun i e e' h1 h2 => (h.at_ i e e' h1 h2).2.1, ?_⟩
  have := key (fun e => .int .i64 (e.born : Int)) fun i e e' h1 h2 => by rw [(h.at_ i e e' h1 h2).2.2.1]
  have h2 := congrArg (List.map fun v => match v with | Value.int _ x => x.toNat | _ => 0) this
  simpa [List.map_map, Function.comp_def] using h2
theorem nodup_map_inj {α β : Type} {f : α → β} (hf : ∀ a b, f a = f b → a = b) : ∀ {l : List α}, l.Nodup → (l.map f).Nodup
  | [], _ => by simp
  | a :: l, hn => by
    rw [List.nodup_cons] at hn
    rw [List.map_cons, List.nodup_cons]
    refine ⟨fun hm => ?_, nodup_map_inj hf hn.2⟩
    obtain ⟨b, hb, e⟩ := List.mem_map.mp hm
    exact hn.1 (hf _ _ e ▸ hb)
theorem owns0 {P : Program} {k : TypeId} (hk : P.underlying k = some (.int .i64)) {φ : Emb} {es : List MapEntry} {es' : Array MapEntry} {clk : Nat} {ks : List Int} (hm : MapRel φ es es'.toList) (hks : keysI es = some ks) (ho : collectOk es clk ks = true)
    {w : World} {b : Nat} (hb : w.heap[b]? = some (.map es' clk)) : ∃ D : DataW Unit, w.ownsMap P k R0 b es'.size D ∧ (intKeys D).Perm ks ∧ Maps.size D = ks.length ∧ ks.length ≤ 1000000 := by
  simp only [collectOk, Bool.and_eq_true, List.all_eq_true] at ho
  obtain ⟨o1, o2, o3, o4, o5⟩ := ho
  have hlen : es.length = es'.size := by have := hm.len; rwa [Array.length_toList] at this
  have h1 := keysI_get hks
  have hkl : es.length = ks.length := by have := congrArg List.length h1; simpa using this
  obtain ⟨h2, h3⟩ := mapRel_keys hm
  rw [h1] at h2
  have hle : es.length ≤ 1000000 := Nat.le_of_ble_eq_true o1
  have hkey : ∀ x ∈ es'.toList, ∃ n, x.key = .int .i64 n ∧ (Lit.int .i64 n).wf = true := fun x hx => by
    have : x.key ∈ es'.toList.map (·.key) := List.mem_map.mpr ⟨x, hx, rfl⟩
    rw [h2] at this
    obtain ⟨n, hn, e⟩ := List.mem_map.mp this
    exact ⟨n, e.symm, o5 n hn⟩
  have hrd : ∀ x ∈ es'.toList, ∀ n, x.key = .int .i64 n → (Lit.int .i64 n).wf = true → WideElems.rd P k R0 x = some (.int .i64 n, .nil) := fun x hx n e hw => by
    unfold WideElems.rd
    rw [e]
    simp [keyOf, hk, mapKey, hw, R0]
  refine ⟨_, ⟨es', clk, hb, ⟨by rw [← hlen]; unfold maxLen; omega, ⟨fun x hx => ?_, ?_, ?_⟩, fun x hx => ?_⟩, Nat.le_refl _, rfl⟩, ?_, ?_, by omega⟩
  · have : x.born ∈ es'.toList.map (·.born) := List.mem_map.mpr ⟨x, hx, rfl⟩
    rw [h3] at this
    obtain ⟨e, he, e2⟩ := List.mem_map.mp this
    have := o2 e he
    rw [e2] at this
    exact Nat.ble_eq.mp this
  · rw [h3]; exact nodupN_ok o3
  · rw [h2]; exact nodup_map_inj (fun a b e => by simpa using e) (nodupI_ok o4)
  · obtain ⟨n, e, hw⟩ := hkey x hx
    exact ⟨_, hrd x hx n e hw⟩
  · show (List.map (fun p : Lit × DataW Unit => intOf p.1) _).Perm ks
    refine ((sorted_perm _).map _).trans ?_
    rw [List.map_map]
    have : es'.toList.map ((fun p : Lit × DataW Unit => intOf p.1) ∘ WideElems.rg P k R0) = ks := by
      have h4 : es'.toList.map ((fun p : Lit × DataW Unit => intOf p.1) ∘ WideElems.rg P k R0) = (es'.toList.map (·.key)).map (fun v => match v with | Value.int _ x => x | _ => 0) := by
        rw [List.map_map]
        refine List.map_congr_left fun x hx => ?_
        obtain ⟨n, e, hw⟩ := hkey x hx
        simp only [Function.comp_apply, WideElems.rg, hrd x hx n e hw, Option.getD_some, intOf, e]
      rw [h4, h2, List.map_map]
      have : ((fun v => match v with | Value.int _ x => x | _ => 0) ∘ Value.int .i64) = id := by funext x; rfl
      rw [this, List.map_id]
    rw [this]
  · show (List.length _) = _
    rw [length_sorted, List.length_map, Array.length_toList]
    omega
theorem VRs_ints (φ : Emb) : ∀ l : List Int, VRs φ (l.map (Value.int .i64)) (l.map (Value.int .i64))
  | [] => .nil
  | x :: l => .cons (.int _ _) (VRs_ints φ l)
theorem colS_ok {P : Program} {kc : Nat} {fks : List Nat} (h8 : ∃ ρ, Go.Proofs.SlLaysZI.n8 P ρ ∧ ρ.f 8 = kc) (hk : ∀ g, g ∈ fks → ∃ ρ, Go.Proofs.SlLaysZI.n10 P ρ ∧ ρ.f 10 = g) : SumOK P (colS kc fks) := by
  intro f g hg vs h l hl φ w cs hrel hvs
  unfold colS at hg
  cases hf : Nat.beq f kc with
  | false => rw [hf] at hg; cases hg
  | true =>
  obtain rfl := Nat.eq_of_beq_eq_true hf
  rw [hf] at hg
  obtain rfl := Option.some.inj hg
  simp only [collectF, Option.bind_eq_some_iff] at hl
  obtain ⟨⟨fk, ab⟩, ha, hl⟩ := hl
  cases hfk : fks.any (Nat.beq fk) with
  | false => simp only [hfk, cond_false] at hl; cases hl
  | true =>
  simp only [hfk, cond_true, Option.bind_eq_some_iff] at hl
  obtain ⟨m, hm, hl⟩ := hl
  obtain ⟨fk', hfk1, hfk2⟩ := List.any_eq_true.mp hfk
  obtain rfl := Nat.eq_of_beq_eq_true hfk2
  obtain ⟨ρ8, L8, hk8⟩ := h8
  obtain ⟨ρ, L10, hk10⟩ := hk _ hfk1
  -- the argument
  obtain ⟨t, rfl, hab⟩ : ∃ t, cs = [.func (.func fk) #[] #[.pointer (some ⟨t.blk, t.sh + 0, none⟩)]] ∧ φ ab = some t := by
    unfold colArg at ha
    split at ha
    · rename_i g' ab'
      simp only [Option.some.injEq, Prod.mk.injEq] at ha
      obtain ⟨rfl, rfl⟩ := ha
      cases hvs with
      | cons hv hr =>
      cases hr
      cases hv with
      | @func _ _ _ as' bs' s1 r1 s2 r2 =>
      have ea : as' = #[] := by
        have : as'.size = 0 := by rw [← s1]; rfl
        exact Array.eq_empty_of_size_eq_zero this
      subst ea
      have eb : bs'.size = 1 := by rw [← s2]; rfl
      obtain ⟨b0, rfl⟩ : ∃ b0, bs' = #[b0] := Array.size_eq_one_iff.mp eb
      have := r2 0 _ _ rfl rfl
      cases this with
      | ptr hp => exact ⟨_, rfl, hp⟩
    · cases ha
  obtain ⟨esz, hgm⟩ : ∃ esz, h.get ab = some (.cells [.map m] false false esz) := by
    unfold colMap at hm
    split at hm
    · rename_i m' esz he; obtain rfl := Option.some.inj hm; exact ⟨esz, he⟩
    · cases hm
  obtain ⟨t2, k1, _, _, _, _, k6⟩ := hrel.cells _ _ _ _ _ hgm
  rw [hab] at k1
  obtain rfl := Option.some.inj k1
  have hsh := hrel.sh0 _ _ _ _ hgm hab
  obtain ⟨_, mv, hcell, hmv⟩ := k6 0 (.map m) rfl
  have hblk := hrel.blkLt _ _ hab
  rw [hsh] at hcell ⊢
  have eg : ∀ args w, (callFunc fk args).run P w = .ok (.enter fk args) w := by rw [← hk10]; exact L10.f10.enters rfl
  have res : ∀ ks : List Int, ks.length ≤ 1000000 → (∀ ss : List Int, ss.Perm ks → outC h ss ∈ l) → SeqGives Fence.wide 1 P fk #[.pointer (some ⟨t.blk, 0, none⟩)] encZ (fun ss => ss.Perm ks) ks.length w →
      Calls P f #[.func (.func fk) #[] #[.pointer (some ⟨t.blk, 0, none⟩)]] w fun e w' => ∃ q ∈ l, ∃ φ' c, e = .returned c ∧ Good φ w q.2 w' φ' ∧ VR φ' q.1 c := by
    intro ks hkl hin hseq
    have := Proofs.AnyZI.collect_in L8 Fence.wide 3 trivial trivial rfl (by omega) fk #[.pointer (some ⟨t.blk, 0, none⟩)] trivial eg (fun ss => ss.Perm ks) ks.length (by unfold maxLen; omega) (by omega) w hseq
    rw [hk8] at this
    refine (callsIn_wide.1 this).mono ?_
    rintro e w' ⟨v, ss, rfl, hp, hrow, hnil, hb⟩
    refine ⟨_, hin ss hp, ?_⟩
    cases ss with
    | nil =>
      obtain rfl := hnil.mpr rfl
      exact ⟨φ, _, rfl, ⟨.refl _ _, ⟨hb.os, hb.tape, hb.output, hb.size, fun B hB _ => hb.block B hB⟩, hrel.heap_same hb.size hb.block⟩, .nilS⟩
    | cons x ss =>
      rcases hrow.2 with ⟨_, h0⟩ | ⟨gb, cap, cur, rfl, g1, g2, g3, g4, g5, g6⟩
      · simp at h0
      · refine ⟨_, _, rfl, push_at hrel hb g2 g1 (VRs_ints φ (x :: ss)) ?_ ?_ true, ?_⟩
        · rw [← g6]; simp
        · simp only [List.all_eq_true, List.mem_map]
          rintro v ⟨y, _, rfl⟩
          rfl
        · refine @VR.sliceO _ h.n 0 _ cap _ (grow_new φ h.n _) ?_ g3
          show 0 + 0 + cap * 1 = cur.size
          omega
  cases m with
  | none =>
    cases hmv
    obtain rfl := Option.some.inj hl
    refine res [] (by simp) (fun ss hss => by rw [hss.eq_nil]; simp [outC]) ?_
    have := Proofs.AnyZI.keys_gives_nil L10 Fence.wide 1 trivial rfl t.blk w hblk hcell
    rw [hk10] at this
    intro l' J W hW hJ hY h0
    refine (this l' J W hW hJ (fun pre x W1 _ hlt => absurd hlt (by omega)) h0).mono ?_
    rintro e W' ⟨e1, xs, hxs, hJ'⟩
    subst hxs
    exact ⟨e1, [], .refl _, hJ'⟩
  | some r =>
    simp only [Option.bind_eq_some_iff] at hl
    obtain ⟨ks, hks, hl⟩ := hl
    obtain rfl := Option.some.inj hl
    unfold colKeys at hks
    split at hks
    · rename_i es clk hes
      simp only [Option.bind_eq_some_iff] at hks
      obtain ⟨ks', hk1, hk2⟩ := hks
      cases hco : collectOk es clk ks' with
      | false => rw [hco] at hk2; cases hk2
      | true =>
      rw [hco] at hk2
      obtain rfl := Option.some.inj hk2
      obtain ⟨t3, es', m1, m2, m3, m4⟩ := hrel.maps _ _ _ hes
      cases hmv with
      | map hr3 =>
      rw [m1] at hr3
      obtain rfl := Option.some.inj hr3
      obtain ⟨D, d1, d2, d3, d4⟩ := owns0 (P := P) L10.t26 m4 hk1 hco m3
      refine res ks' d4 (fun ss hss => List.mem_map.mpr ⟨ss, mem_permsL hss, rfl⟩) ?_
      have := Proofs.AnyZI.keys_gives L10 Fence.wide 1 trivial rfl (by omega) t.blk t3.blk _ D w hblk hcell d1
      rw [hk10, d3] at this
      intro l' J W hW hJ hY h0
      refine (this l' J W hW hJ hY h0).mono ?_
      rintro e W' ⟨e1, xs, hxs, hJ'⟩
      exact ⟨e1, xs, hxs.trans d2, hJ'⟩
    · cases hks
end Go.Lg
