/- What the scheduler's functions come to. -/
import Derived.Test.YtplfjljdakkigaaFsched
import Derived.Test.YtplfjljdakkigaaFslices
import Derived.Test.YtplfjljdakkigaaEv32
namespace Go.Lg.Try
set_option linter.unusedVariables false
set_option linter.unusedSimpArgs false
open Go Go.Proofs

structure TD where
  t : Option (TypeId × Value)
  st : Int
  n : Int
def encT (x : TD) : List Value := [ifV x.t, .int .u8 x.st, .int .i64 x.n]
theorem encT_len (x : TD) : (encT x).length = 3 := rfl

structure SchR (h : AH) (s : Nat) (ta : Option Addr) (tn tc : Nat) (la : Option Addr) (ln lc : Nat) (ts : List TD) (line : List Int) (now : Int) (woken : Bool) : Prop where
  g : h.get s = some (.cells [.bool true, .slice ta tn tc, .slice la ln lc, .int .i64 now, .bool woken] false false 5)
  tk : OwS h 3 ta tn tc (ts.flatMap encT)
  lk : OwS h 1 la ln lc (line.flatMap encI)
  sn : s < h.n
  d1 : ¬ blk ta s
  d2 : ¬ blk la s
  d3 : ∀ b, blk ta b → ¬ blk la b
namespace SchR
variable {h h' : AH} {s : Nat} {ta la : Option Addr} {tn tc ln lc : Nat} {ts : List TD} {line : List Int} {now : Int} {woken : Bool}
theorem tlen (hS : SchR h s ta tn tc la ln lc ts line now woken) : tn = ts.length := by have := hS.tk.len; rw [flat_len encT_len] at this; omega
theorem llen (hS : SchR h s ta tn tc la ln lc ts line now woken) : ln = line.length := by have := hS.lk.len; rw [flat_len encI_len] at this; omega
theorem c0 (hS : SchR h s ta tn tc la ln lc ts line now woken) : h.ldB s (0 + 0) = some true := AH.ldB_of hS.g rfl
theorem c1 (hS : SchR h s ta tn tc la ln lc ts line now woken) : h.ldS s (0 + 1) = some (ta, tn, tc) := AH.ldS_of hS.g rfl
theorem c2 (hS : SchR h s ta tn tc la ln lc ts line now woken) : h.ldS s (0 + 2) = some (la, ln, lc) := AH.ldS_of hS.g rfl
theorem c3 (hS : SchR h s ta tn tc la ln lc ts line now woken) : h.ldI .i64 s (0 + 3) = some now := AH.ldI_of hS.g rfl
theorem c4 (hS : SchR h s ta tn tc la ln lc ts line now woken) : h.ldB s (0 + 4) = some woken := AH.ldB_of hS.g rfl
/-- it stands where none of its blocks is turned -/
theorem same (hS : SchR h s ta tn tc la ln lc ts line now woken) (hg : ∀ b, b < h.n → (b = s ∨ blk ta b ∨ blk la b) → h'.get b = h.get b) (hn : h.n ≤ h'.n) : SchR h' s ta tn tc la ln lc ts line now woken :=
  ⟨by rw [hg s hS.sn (.inl rfl)]; exact hS.g, hS.tk.same (fun b h1 h2 => hg b h1 (.inr (.inl h2))) hn, hS.lk.same (fun b h1 h2 => hg b h1 (.inr (.inr h2))) hn, Nat.lt_of_lt_of_le hS.sn hn, hS.d1, hS.d2, hS.d3⟩
theorem fr (hS : SchR h s ta tn tc la ln lc ts line now woken) (hf : Fr [] h h') : SchR h' s ta tn tc la ln lc ts line now woken := hS.same (fun b h1 _ => hf.g b h1 (by simp)) hf.n
/-- one of its own fields turned -/
theorem fld (hS : SchR h s ta tn tc la ln lc ts line now woken) (now' : Int) (woken' : Bool) : SchR (h.set s (some (.cells [.bool true, .slice ta tn tc, .slice la ln lc, .int .i64 now', .bool woken'] false false 5))) s ta tn tc la ln lc ts line now' woken' :=
  ⟨AH.get_set_eq _ _ _, hS.tk.same (fun b h1 h2 => AH.get_set_ne _ (fun e => hS.d1 (e ▸ h2))) (Nat.le_refl _), hS.lk.same (fun b h1 h2 => AH.get_set_ne _ (fun e => hS.d2 (e ▸ h2))) (Nat.le_refl _), hS.sn, hS.d1, hS.d2, hS.d3⟩
theorem stNow (hS : SchR h s ta tn tc la ln lc ts line now woken) (now' : Int) : h.st s (0 + 3) [.int .i64 now'] = some (h.set s (some (.cells [.bool true, .slice ta tn tc, .slice la ln lc, .int .i64 now', .bool woken] false false 5))) := AH.st_of hS.g (by simp)
theorem stWoken (hS : SchR h s ta tn tc la ln lc ts line now woken) (w : Bool) : h.st s (0 + 4) [.bool w] = some (h.set s (some (.cells [.bool true, .slice ta tn tc, .slice la ln lc, .int .i64 now, .bool w] false false 5))) := AH.st_of hS.g (by simp)
theorem stLine (hS : SchR h s ta tn tc la ln lc ts line now woken) (a : Option Addr) (n c : Nat) : h.st s (0 + 2) [.slice a n c] = some (h.set s (some (.cells [.bool true, .slice ta tn tc, .slice a n c, .int .i64 now, .bool woken] false false 5))) := AH.st_of hS.g (by simp)
theorem stTasks (hS : SchR h s ta tn tc la ln lc ts line now woken) (a : Option Addr) (n c : Nat) : h.st s (0 + 1) [.slice a n c] = some (h.set s (some (.cells [.bool true, .slice a n c, .slice la ln lc, .int .i64 now, .bool woken] false false 5))) := AH.st_of hS.g (by simp)
/-- a task, read -/
theorem task (hS : SchR h s ta tn tc la ln lc ts line now woken) {i : Nat} {x : TD} (hx : ts[i]? = some x) : ∃ tb, ta = some ⟨tb, 0, none⟩ ∧ h.ldF tb (0 + i * 3 + 0) = some x.t ∧ h.ldF tb (0 + i * 3) = some x.t ∧ h.ldI .u8 tb (0 + i * 3 + 1) = some x.st ∧ h.ldI .i64 tb (0 + i * 3 + 2) = some x.n ∧
    (∀ j vs x', j + vs.length ≤ 3 → AH.setL (encT x) j vs = encT x' → ∃ h', h.st tb (0 + i * 3 + j) vs = some h' ∧ SchR h' s ta tn tc la ln lc (ts.set i x') line now woken ∧ h'.n = h.n ∧ ∀ b, b ≠ tb → h'.get b = h.get b) := by
  have hk := hS.tk
  have hlt : i < ts.length := (List.getElem?_eq_some_iff.mp hx).1
  generalize hcs : ts.flatMap encT = cs at hk
  cases hk with
  | nil =>
    have := congrArg List.length hcs
    rw [flat_len encT_len] at this; simp at this; omega
  | @mk tb _ m _ rest hb hl hr hn =>
    have hlen : (ts.flatMap encT).length = ts.length * 3 := flat_len encT_len ts
    have at_ : ∀ j, j < 3 → (cs ++ rest)[0 + i * 3 + j]? = (encT x)[j]? := fun j hj => by
      rw [Nat.zero_add, List.getElem?_append_left (by rw [← hcs, hlen]; omega), ← hcs]; exact flat_get_some encT_len hj hx
    refine ⟨tb, rfl, ldF_of hb (at_ 0 (by omega)), ldF_of hb (at_ 0 (by omega)), AH.ldI_of hb (at_ 1 (by omega)), AH.ldI_of hb (at_ 2 (by omega)), fun j vs x' hj hs => ?_⟩
    refine ⟨_, AH.st_of hb (by rw [List.length_append, ← hcs, hlen]; omega), ?_, rfl, fun b hne => AH.get_set_ne _ hne⟩
    have hset : AH.setL (cs ++ rest) (0 + i * 3 + j) vs = (ts.set i x').flatMap encT ++ rest := by
      rw [← hcs, Nat.zero_add]
      apply List.ext_getElem?
      intro k
      rw [AH.setL_get _ _ _ _ (by rw [List.length_append, hlen]; omega)]
      have h2 := flat_set (enc := encT) encT_len (i := i) (j := j) (vs := vs) hx hj hs
      by_cases hk : k < ts.length * 3
      · have h3 : ((ts.set i x').flatMap encT ++ rest)[k]? = ((ts.set i x').flatMap encT)[k]? := List.getElem?_append_left (by rw [flat_len encT_len]; simpa using hk)
        rw [h3, ← h2, AH.setL_get _ _ _ _ (by rw [hlen]; omega)]
        have h4 : (ts.flatMap encT ++ rest)[k]? = (ts.flatMap encT)[k]? := List.getElem?_append_left (by rw [hlen]; exact hk)
        rw [h4]
      · rw [if_neg (by omega), List.getElem?_append_right (by rw [hlen]; omega), List.getElem?_append_right (by rw [flat_len encT_len]; simp; omega), hlen, flat_len encT_len]
        simp
    rw [hset]
    refine ⟨?_, .mk (AH.get_set_eq _ _ _) (by rw [flat_len encT_len]; rw [← hcs, hlen] at hl; simpa using hl) hr hn, hS.lk.same (fun b h1 h2 => AH.get_set_ne _ (fun e => hS.d3 tb rfl (e ▸ h2))) (Nat.le_refl _), hS.sn, hS.d1, hS.d2, hS.d3⟩
    rw [AH.get_set_ne _ (fun e => hS.d1 (by rw [e]; rfl))]; exact hS.g
end SchR
section
variable {h : AH} {s : Nat} {ta la : Option Addr} {tn tc ln lc : Nat} {ts : List TD} {line : List Int} {now : Int} {woken : Bool}
theorem s_right (hS : SchR h s ta tn tc la ln lc ts line now woken) : C k_sched_Sched_right [.pointer (some ⟨s, 0, none⟩)] h = some (.bool true, h) := by
  refine sched_Sched_right_le _ ?_
  simp only [F_sched_Sched_right, Option.isNone_some, Bool.not_false, cond_t, Option.bind_some, hS.c0]
theorem s_there (hS : SchR h s ta tn tc la ln lc ts line now woken) (id : Int) : C k_sched_Sched_there [.pointer (some ⟨s, 0, none⟩), .int .i64 id] h = some (.bool (decide (1 ≤ id ∧ id ≤ ts.length)), h) := by
  refine sched_Sched_there_le _ ?_
  simp only [F_sched_Sched_there, s_right hS, Option.bind_some, asB_b, cond_t, hS.c1, hS.tlen]
  by_cases a : 1 ≤ id
  · by_cases b : id ≤ (ts.length : Int)
    · rw [dec_f (show ¬ id < 1 by omega), Bool.not_false, cond_t, dec_t b, dec_t ⟨a, b⟩]
    · rw [dec_f (show ¬ id < 1 by omega), Bool.not_false, cond_t, dec_f b, dec_f (fun e => b e.2)]
  · rw [dec_t (show id < 1 by omega), Bool.not_true, cond_f, dec_f (fun e => a e.1)]
def stOf (ts : List TD) (id : Int) : Int := if 1 ≤ id ∧ id ≤ ts.length then match ts[(id - 1).toNat]? with
  | some x => x.st
  | none => 0 else 0
def nOf (ts : List TD) (id : Int) : Int := if 1 ≤ id ∧ id ≤ ts.length then match ts[(id - 1).toNat]? with
  | some x => x.n
  | none => 0 else 0
theorem s_status (hS : SchR h s ta tn tc la ln lc ts line now woken) (id : Int) (hb : ts.length < 1000000) : C k_sched_Sched_Status [.pointer (some ⟨s, 0, none⟩), .int .i64 id] h = some (.int .u8 (stOf ts id), h) := by
  refine sched_Sched_Status_le _ ?_
  simp only [F_sched_Sched_Status, s_there hS, Option.bind_some, asB_b, stOf]
  by_cases a : 1 ≤ id ∧ id ≤ (ts.length : Int)
  · rw [dec_t a, if_pos a, Bool.not_true, cond_f]
    refine sched_Sched_Status_j1_le _ ?_
    obtain ⟨x, hx⟩ : ∃ x, ts[(id - 1).toNat]? = some x := ⟨_, List.getElem?_eq_getElem (by omega)⟩
    obtain ⟨tb, rfl, _, _, e1, e2, _⟩ := hS.task hx
    rw [wrap64 (by omega) (by omega)]
    simp only [Option.bind_some, hS.c1, hS.tlen, inB_t (show 0 ≤ id - 1 by omega) (show id - 1 < (ts.length : Nat) by omega), cond_t, e1, hx]
  · rw [dec_f a, if_neg a]; rfl
theorem s_steps (hS : SchR h s ta tn tc la ln lc ts line now woken) (id : Int) (hb : ts.length < 1000000) : C k_sched_Sched_Steps [.pointer (some ⟨s, 0, none⟩), .int .i64 id] h = some (.int .i64 (nOf ts id), h) := by
  refine sched_Sched_Steps_le _ ?_
  simp only [F_sched_Sched_Steps, s_there hS, Option.bind_some, asB_b, nOf]
  by_cases a : 1 ≤ id ∧ id ≤ (ts.length : Int)
  · rw [dec_t a, if_pos a, Bool.not_true, cond_f]
    refine sched_Sched_Steps_j1_le _ ?_
    obtain ⟨x, hx⟩ : ∃ x, ts[(id - 1).toNat]? = some x := ⟨_, List.getElem?_eq_getElem (by omega)⟩
    obtain ⟨tb, rfl, _, _, e1, e2, _⟩ := hS.task hx
    rw [wrap64 (by omega) (by omega)]
    simp only [Option.bind_some, hS.c1, hS.tlen, inB_t (show 0 ≤ id - 1 by omega) (show id - 1 < (ts.length : Nat) by omega), cond_t, e2, hx]
  · rw [dec_f a, if_neg a]; rfl
end

/-- a scheduler within a set of blocks -/
def Sch (h : AH) (s : Nat) (F : Nat → Prop) (ts : List TD) (line : List Int) (now : Int) (woken : Bool) : Prop :=
  ∃ ta tn tc la ln lc, SchR h s ta tn tc la ln lc ts line now woken ∧ ∀ b, (b = s ∨ blk ta b ∨ blk la b) → F b
/-- nothing else has turned; what it has now it had, or is new -/
structure Moved (F F' : Nat → Prop) (h h' : AH) : Prop where
  n : h.n ≤ h'.n
  g : ∀ b, b < h.n → ¬ F b → h'.get b = h.get b
  f : ∀ b, F' b → F b ∨ h.n ≤ b
theorem Moved.refl (F : Nat → Prop) (h : AH) : Moved F F h h := ⟨Nat.le_refl _, fun _ _ _ => rfl, fun _ hb => .inl hb⟩
theorem Moved.trans {F F1 F2 : Nat → Prop} {h h1 h2 : AH} (a : Moved F F1 h h1) (b : Moved F1 F2 h1 h2) : Moved F F2 h h2 :=
  ⟨Nat.le_trans a.n b.n, fun x h1 h2 => (b.g x (Nat.lt_of_lt_of_le h1 a.n) (fun hf => by rcases a.f x hf with e | e; exact h2 e; omega)).trans (a.g x h1 h2),
   fun x hx => by rcases b.f x hx with e | e; exact a.f x e; have := a.n; exact .inr (by omega)⟩
theorem Moved.fr {F : Nat → Prop} {h h' : AH} (hf : Fr [] h h') : Moved F F h h' := ⟨hf.n, fun b h1 _ => hf.g b h1 (by simp), fun b hb => .inl hb⟩

section
variable {h : AH} {s : Nat} {F : Nat → Prop} {ts : List TD} {line : List Int} {now : Int} {woken : Bool}
/-- one more number on the line -/
theorem line_push {ta la : Option Addr} {tn tc ln lc : Nat} (hS : SchR h s ta tn tc la ln lc ts line now woken) (hF : ∀ b, (b = s ∨ blk ta b ∨ blk la b) → F b) (x : Int) (hb : line.length < 1000000) :
    ∃ a n c h1, appE 1 8 (.slice la ln lc) (.slice (some ⟨h.n, 0, none⟩) 1 1) (h.push (.cells [.int .i64 x] false false 1)) = some (.slice a n c, h1) ∧ ∃ h2, h1.st s (0 + 2) [.slice a n c] = some h2 ∧
      SchR h2 s ta tn tc a n c ts (line ++ [x]) now woken ∧ ∃ F', (∀ b, (b = s ∨ blk ta b ∨ blk a b) → F' b) ∧ Moved F F' h h2 := by
  have hf1 : Fr [] h (h.push (.cells [.int .i64 x] false false 1)) := Fr.push _ _ _
  have hS1 := hS.fr hf1
  have hln := hS.llen
  obtain ⟨a', h1, e1, e2, e3, e4, e5⟩ := hS1.lk.app (by_ := 8) (newCells_one (c := 1) (AH.get_push_eq h _) rfl) (by rfl) (by omega) (by omega) (by omega)
  have hn1 : (h.push (.cells [.int .i64 x] false false 1)).n = h.n + 1 := rfl
  -- the scheduler behind the append: all but its line
  have keep : ∀ b, b < h.n → ¬ blk la b → h1.get b = h.get b := fun b hb hne => by
    rw [e4 b (by omega) hne, AH.get_push_ne _ (by omega)]
  have hsg : h1.get s = some (.cells [.bool true, .slice ta tn tc, .slice la ln lc, .int .i64 now, .bool woken] false false 5) := by rw [keep s hS.sn hS.d2]; exact hS.g
  have hsne : ¬ blk a' s := fun hb => by rcases e5 s hb with e | e; exact hS.d2 e; have := hS.sn; omega
  refine ⟨a', ln + 1, opn, h1, e1, h1.set s (some (.cells [.bool true, .slice ta tn tc, .slice a' (ln + 1) opn, .int .i64 now, .bool woken] false false 5)), AH.st_of hsg (by simp), ?_, fun b => F b ∨ h.n ≤ b, ?_, ?_⟩
  · refine ⟨AH.get_set_eq _ _ _, ?_, ?_, ?_, hS.d1, hsne, fun b h2 h3 => ?_⟩
    · refine hS.tk.same (fun b h2 h3 => ?_) ?_
      · have hbs : b ≠ s := fun e => hS.d1 (e ▸ h3)
        rw [AH.get_set_ne _ hbs, keep b h2 (hS.d3 b h3)]
      · rw [AH.n_set]; omega
    · have : (line ++ [x]).flatMap encI = line.flatMap encI ++ [.int .i64 x] := by simp [List.flatMap_append, encI]
      rw [this]
      exact e2.same (fun b h2 h3 => AH.get_set_ne _ (fun e => hsne (e ▸ h3))) (Nat.le_refl _)
    · rw [AH.n_set]; have := hS.sn; omega
    · rcases e5 b h3 with e | e
      · exact hS.d3 b h2 e
      · have := hS.tk.lt b h2; omega
  · rintro b (rfl | hb | hb)
    · exact .inl (hF _ (.inl rfl))
    · exact .inl (hF _ (.inr (.inl hb)))
    · rcases e5 b hb with e | e
      · exact .inl (hF _ (.inr (.inr e)))
      · exact .inr (by omega)
  · refine ⟨by rw [AH.n_set]; omega, fun b h2 h3 => ?_, fun b hb => hb⟩
    rw [AH.get_set_ne _ (fun e => h3 (hF _ (.inl e))), keep b h2 (fun hb => h3 (hF _ (.inr (.inr hb))))]

def wakeM (ts : List TD) (line : List Int) (now : Int) (woken : Bool) (id : Int) : Bool × List TD × List Int × Bool :=
  if 1 ≤ id ∧ id ≤ ts.length then
    if id = now then (!woken, ts, line, true)
    else match ts[(id - 1).toNat]? with
      | none => (false, ts, line, woken)
      | some x => if x.st = 2 then (true, ts.set (id - 1).toNat { x with st := 1 }, line ++ [id], woken) else (false, ts, line, woken)
  else (false, ts, line, woken)
theorem wake_ok (hs : Sch h s F ts line now woken) (id : Int) (hb : ts.length < 1000000) (hb2 : line.length < 1000000) : Ok (C k_sched_Sched_Wake [.pointer (some ⟨s, 0, none⟩), .int .i64 id] h) fun v h' =>
    v = .bool (wakeM ts line now woken id).1 ∧ ∃ F', Sch h' s F' (wakeM ts line now woken id).2.1 (wakeM ts line now woken id).2.2.1 now (wakeM ts line now woken id).2.2.2 ∧ Moved F F' h h' := by
  obtain ⟨ta, tn, tc, la, ln, lc, hS, hF⟩ := hs
  refine Ok.le ?_ sched_Sched_Wake_le
  simp only [F_sched_Sched_Wake, s_there hS, Option.bind_some, asB_b, wakeM]
  by_cases a : 1 ≤ id ∧ id ≤ (ts.length : Int)
  · simp only [if_pos a, dec_t a, Bool.not_true, cond_f, hS.c3]
    by_cases b : id = now
    · simp only [if_pos b, dec_t b, cond_t, hS.c4, hS.stWoken, Option.bind_some]
      refine Ok.some ⟨rfl, F, ⟨ta, tn, tc, la, ln, lc, hS.fld now true, hF⟩, Nat.le_refl _, fun b' h1 h2 => AH.get_set_ne _ (fun e => h2 (hF _ (.inl e))), fun b' hb' => .inl hb'⟩
    · obtain ⟨x, hx⟩ : ∃ x, ts[(id - 1).toNat]? = some x := ⟨_, List.getElem?_eq_getElem (by omega)⟩
      obtain ⟨tb, rfl, _, _, e1, _, est⟩ := hS.task hx
      simp only [if_neg b, dec_f b, cond_f, hS.c1, Option.bind_some, hS.tlen, wrap64 (show -9223372036854775808 ≤ id - 1 by omega) (by omega), inB_t (show 0 ≤ id - 1 by omega) (show id - 1 < (ts.length : Nat) by omega), cond_t, e1, hx]
      by_cases c : x.st = 2
      · rw [if_pos c, dec_t c, Bool.not_true, cond_f]
        refine Ok.le ?_ sched_Sched_Wake_j1_le
        obtain ⟨h1, w1, w2, w3, w4⟩ := est 1 [.int .u8 1] { x with st := 1 } (by simp) rfl
        simp only [hS.c1, Option.bind_some, hS.tlen, wrap64 (show -9223372036854775808 ≤ id - 1 by omega) (by omega), inB_t (show 0 ≤ id - 1 by omega) (show id - 1 < (ts.length : Nat) by omega), cond_t, w1, w2.c2]
        obtain ⟨a', n', c', h2, u1, h3, u2, u3, F', u4, u5⟩ := line_push w2 hF id hb2
        simp only [u1, Option.bind_some, asS_s, u2]
        refine Ok.some ⟨rfl, F', ⟨_, _, _, _, _, _, u3, u4⟩, ?_⟩
        have : Moved F F h h1 := ⟨by omega, fun b' g1 g2 => w4 b' (fun e => g2 (hF _ (.inr (.inl (by rw [e]; rfl))))), fun b' hb' => .inl hb'⟩
        exact this.trans u5
      · rw [if_neg c, dec_f c, Bool.not_false, cond_t]
        exact Ok.some ⟨rfl, F, ⟨_, _, _, _, _, _, hS, hF⟩, .refl _ _⟩
  · simp only [if_neg a, dec_f a, Bool.not_false, cond_t]
    exact Ok.some ⟨rfl, F, ⟨_, _, _, _, _, _, hS, hF⟩, .refl _ _⟩
end

theorem bnd {i : Int} {k top : Nat} (hi : i = k) (ht : k ≤ top) (k0 : IntKind) (d : Nat) (K : Nat → Res) : boundOf (some (.int k0 i)) d top K = K k := by
  subst hi
  simp only [boundOf, inBe_t (show (0 : Int) ≤ (k : Int) by omega) (show (k : Int) ≤ (top : Nat) by omega), cond_t, Int.toNat_natCast]
theorem bnd0 (d top : Nat) (K : Nat → Res) : boundOf none d top K = K d := rfl
theorem blt_opn : Nat.blt opn opn = false := by show Nat.blt 4611686018427387904 4611686018427387904 = false; rfl
theorem blt_small {n : Nat} (h : n < 4611686018427387904) : Nat.blt n opn = true := Nat.ble_eq_true_of_le (show n + 1 ≤ 4611686018427387904 by omega)
/-- one number out of a line that is one's own -/
theorem delete_eq {h : AH} {b n : Nat} {l : List Int} {rest : List Value} (hb : h.get b = some (.cells (l.flatMap encI ++ rest) true false 1)) (hn : n = l.length) {at_ : Nat} (ha : at_ < n) (hsm : n < 1000000) {x1 x2 : Int} (h1 : x1 = at_) (h2 : x2 = at_ + 1) :
    ∃ h' rest', C k_slices_Delete_int_int [.slice (some ⟨b, 0, none⟩) n opn, .int .i64 x1, .int .i64 x2] h = some (.slice (some ⟨b, 0, none⟩) (n - 1) opn, h') ∧ h'.get b = some (.cells ((l.eraseIdx at_).flatMap encI ++ rest') true false 1) ∧ rest'.length = rest.length + 1 ∧ h'.n = h.n ∧ ∀ b', b' ≠ b → h'.get b' = h.get b' := by
  have hlen : (l.flatMap encI).length = n := by rw [flat_len encI_len]; omega
  generalize hcs : l.flatMap encI = cs at hb hlen
  have htop : ((cs ++ rest).length - 0) / 1 = (cs ++ rest).length := by simp
  have htl : (cs ++ rest).length = n + rest.length := by rw [List.length_append, hlen]
  let xs := ((cs ++ rest).drop (at_ + 1)).take (n - (at_ + 1))
  have hxs : xs.length = n - (at_ + 1) := by simp only [xs, List.length_take, List.length_drop, htl]; omega
  let c1 := AH.setL (cs ++ rest) at_ xs
  have hc1 : c1.length = n + rest.length := by simp only [c1]; rw [AH.setL_length, htl]
  let g1 := h.set b (some (.cells c1 true false 1))
  let c2 := AH.setL c1 (n - 1) [.int .i64 0]
  let g2 := g1.set b (some (.cells c2 true false 1))
  have hst1 : h.st b (0 + at_ * 1) xs = some g1 := by rw [AH.st_of hb (by rw [htl, hxs]; omega)]; simp only [Nat.zero_add, Nat.mul_one, g1, c1]
  have hg1 : g1.get b = some (.cells c1 true false 1) := AH.get_set_eq _ _ _
  have hst2 : g1.st b (0 + (n - 1) * 1) [.int .i64 0] = some g2 := by rw [AH.st_of hg1 (by rw [hc1]; simp; omega)]; simp only [Nat.zero_add, Nat.mul_one, g2, c2]
  refine ⟨g2, c2.drop (n - 1), ?_, ?_, ?_, rfl, fun b' hne => by simp only [g2, g1]; rw [AH.get_set_ne _ hne, AH.get_set_ne _ hne]⟩
  · refine slices_Delete_int_int_le _ ?_
    have q1 : slcE 1 (some ⟨b, 0, none⟩) n opn (some (.int .i64 x1)) (some (.int .i64 x2)) (some (.int .i64 ((n : Nat) : Int))) h = some (.slice (some ⟨b, 0 + cond (Nat.beq at_ n) 0 (at_ * 1), none⟩) (at_ + 1 - at_) (n - at_), h) := by
      simp only [slcE, blt_opn, cond_f, hb, Nat.beq_refl, cond_t, Option.isSome_some, htop]
      have : Nat.beq 1 0 = false := rfl
      rw [this, cond_f, bnd rfl (by rw [htl]; omega), blt_small (by omega), cond_t, bnd (k := at_ + 1) (by omega) (by omega), bnd h1 (by omega)]
    simp only [F_slices_Delete_int_int, q1, Option.bind_some, asS_s, dec_f (show ¬x1 = x2 by omega), cond_f]
    refine slices_Delete_int_int_j1_le _ ?_
    have hb10 : Nat.beq 1 0 = false := rfl
    have q2 : slcE 1 (some ⟨b, 0, none⟩) n opn none (some (.int .i64 x1)) none h = some (.slice (some ⟨b, 0 + 0 * 1, none⟩) (at_ - 0) opn, h) := by
      simp only [slcE, blt_opn, cond_f, hb, Nat.beq_refl, cond_t, htop, hb10]
      rw [bnd h1 (by rw [htl]; omega)]; rfl
    have q3 : slcE 1 (some ⟨b, 0, none⟩) n opn (some (.int .i64 x2)) none none h = some (.slice (some ⟨b, 0 + (at_ + 1) * 1, none⟩) (n - (at_ + 1)) opn, h) := by
      simp only [slcE, blt_opn, cond_f, hb, Nat.beq_refl, cond_t, htop, hb10]
      rw [bnd0, bnd (k := at_ + 1) (by omega) (by omega)]
    have hrow : newCells h 1 (.slice (some ⟨b, 0 + (at_ + 1) * 1, none⟩) (n - (at_ + 1)) opn) = some (n - (at_ + 1), xs) := by
      simp only [newCells, ldRow, hb, Nat.mul_one, Nat.zero_add]
      rw [Nat.ble_eq_true_of_le (by rw [htl]; omega)]; rfl
    have q4 : appE 1 8 (.slice (some ⟨b, 0 + 0 * 1, none⟩) (at_ - 0) opn) (.slice (some ⟨b, 0 + (at_ + 1) * 1, none⟩) (n - (at_ + 1)) opn) h = some (.slice (some ⟨b, 0 + 0 * 1, none⟩) (at_ - 0 + (n - (at_ + 1))) opn, g1) := by
      have e1 : roomOk (at_ - 0 + (n - (at_ + 1))) 8 = true := roomOk_t (by omega) (by omega)
      have e2 : Nat.beq xs.length ((n - (at_ + 1)) * 1) = true := by rw [hxs, Nat.mul_one]; exact Nat.beq_refl _
      have e3 : Nat.ble (0 + 0 * 1 + (at_ - 0 + (n - (at_ + 1))) * 1) (cs ++ rest).length = true := Nat.ble_eq_true_of_le (by rw [htl]; omega)
      have e4 : h.st b (0 + 0 * 1 + (at_ - 0) * 1) xs = some g1 := by simpa using hst1
      simp only [appE, hrow, Option.bind_some, e1, e2, Bool.true_and, cond_t, blt_opn, cond_f, hb, Nat.beq_refl, e3, e4]
    have hnn : at_ - 0 + (n - (at_ + 1)) = n - 1 := by omega
    have q5 : slcE 1 (some ⟨b, 0 + 0 * 1, none⟩) (at_ - 0 + (n - (at_ + 1))) opn (some (.int .i64 ((at_ - 0 + (n - (at_ + 1)) : Nat) : Int))) (some (.int .i64 ((n : Nat) : Int))) none g1 = some (.slice (some ⟨b, 0 + 0 * 1 + (n - 1) * 1, none⟩) (n - (n - 1)) opn, g1) := by
      have htop1 : (c1.length - (0 + 0 * 1)) / 1 = c1.length := by simp
      simp only [slcE, blt_opn, cond_f, hg1, Nat.beq_refl, cond_t, htop1, hb10]
      rw [bnd rfl (by rw [hc1]; omega), hnn, bnd rfl (by omega)]
    have hone : n - (n - 1) = 1 := by omega
    have q6 : clrE [.int .i64 0] (some ⟨b, 0 + 0 * 1 + (n - 1) * 1, none⟩) (n - (n - 1)) g1 = some g2 := by
      rw [hone]
      show g1.st b (0 + 0 * 1 + (n - 1) * 1) (repL [.int .i64 0] 1) = some g2
      have : repL [Value.int .i64 0] 1 = [.int .i64 0] := rfl
      rw [this]; simpa using hst2
    simp only [q2, q3, q4, q5, q6, Option.bind_some, asS_s]
    rw [hnn]
  · have hg2 : g2.get b = some (.cells c2 true false 1) := AH.get_set_eq _ _ _
    rw [hg2]
    have : c2 = (l.eraseIdx at_).flatMap encI ++ c2.drop (n - 1) := by
      have he : (l.eraseIdx at_).flatMap encI = c2.take (n - 1) := by
        apply List.ext_getElem?
        intro k
        have hel : ((l.eraseIdx at_).flatMap encI).length = n - 1 := by rw [flat_len encI_len, List.length_eraseIdx, if_pos (by omega)]; omega
        by_cases hk : k < n - 1
        · rw [List.getElem?_take_of_lt hk]
          simp only [c2]
          rw [AH.setL_get _ _ _ _ (by rw [hc1]; simp; omega), if_neg (by omega)]
          simp only [c1]
          rw [AH.setL_get _ _ _ _ (by rw [htl, hxs]; omega)]
          have hf : ∀ (L : List Int) (j : Nat), (L.flatMap encI)[j]? = (L[j]?).map (Value.int .i64) := fun L j => by
            have := flat_get (enc := encI) encI_len (j := 0) (by omega) L j
            simp only [Nat.mul_one, Nat.add_zero] at this
            rw [this]; cases L[j]? <;> rfl
          rw [hf, List.getElem?_eraseIdx]
          by_cases hka : k < at_
          · rw [if_pos hka, if_neg (by omega), List.getElem?_append_left (by omega), ← hcs, hf]
          · rw [if_neg hka, if_pos (by rw [hxs]; omega)]
            simp only [xs]
            rw [List.getElem?_take_of_lt (by omega), List.getElem?_drop, List.getElem?_append_left (by omega), ← hcs, hf]
            congr 2; omega
        · rw [List.getElem?_eq_none (by omega), List.getElem?_eq_none (by simp; omega)]
      rw [he, List.take_append_drop]
    rw [← this]
  · simp only [List.length_drop, c2]
    rw [AH.setL_length, hc1]; omega

/-- a copy of a line -/
theorem clone_ok {h : AH} {a : Option Addr} {n c : Nat} {l : List Int} (ho : OwS h 1 a n c (l.flatMap encI)) (hb : l.length < 1000000) : Ok (C k_slices_Clone_int_int [.slice a n c] h) fun v h' => ∃ a' c', v = .slice a' l.length c' ∧ Rd h' a' (l.flatMap encI) ∧ Fr [] h h' ∧ (∀ b, blk a' b → h.n ≤ b) := by
  refine Ok.le ?_ slices_Clone_int_int_le
  unfold F_slices_Clone_int_int
  have hlen := ho.len
  rw [flat_len encI_len] at hlen
  generalize hcs : l.flatMap encI = cs at ho
  cases ho with
  | nil =>
    have : l.length = 0 := by omega
    simp only [Option.isNone_none, cond_t, this]
    exact Ok.some ⟨none, 0, rfl, .inl rfl, .refl _ _, fun b hb => by cases hb⟩
  | @mk b _ m _ rest hg hl hr hn =>
    simp only [Option.isNone_some, cond_f]
    refine Ok.le ?_ slices_Clone_int_int_j1_le
    have hf1 : Fr [] h (h.push (.cells [] false false 1)) := Fr.push _ _ _
    have hg1 : (h.push (.cells [] false false 1)).get b = some (.cells (cs ++ rest) true false 1) := by rw [AH.get_push_ne _ (by omega)]; exact hg
    have hrow : newCells (h.push (.cells [] false false 1)) 1 (.slice (some ⟨b, 0, none⟩) n opn) = some (n, cs) := by
      simp only [newCells, ldRow, hg1, Nat.mul_one, Nat.zero_add, List.drop_zero]
      rw [Nat.ble_eq_true_of_le (by rw [List.length_append]; omega)]
      simp only [cond_t, Option.bind_some]
      rw [List.take_append_of_le_length (by omega), List.take_of_length_le (by omega)]
    have hz : Nat.blt 0 opn = true := rfl
    have hgz : (h.push (.cells [] false false 1)).get h.n = some (.cells [] false false 1) := AH.get_push_eq _ _
    by_cases hn0 : n = 0
    · subst hn0
      have hc0 : cs = [] := List.eq_nil_of_length_eq_zero (by omega)
      subst hc0
      have hst : (h.push (.cells [] false false 1)).st h.n 0 [] = some ((h.push (.cells [] false false 1)).set h.n (some (.cells [] false false 1))) := AH.st_of hgz (by simp)
      have hl0 : l.length = 0 := by omega
      have e1 : roomOk 0 8 = true := rfl
      have e3 : Nat.ble 0 0 = true := rfl
      simp only [appE, hrow, Option.bind_some, Nat.zero_add, Nat.zero_mul, List.length_nil, Nat.beq_refl, e1, e3, Bool.and_self, cond_t, hz, hst, asS_s, hl0]
      exact Ok.some ⟨_, _, rfl, .inl rfl, ⟨by rw [AH.n_set, AH.n_push]; omega, fun b' g1 _ => by rw [AH.get_set_ne _ (by omega), AH.get_push_ne _ (by omega)]⟩, fun b' hb' => by obtain rfl : h.n = b' := hb'; exact Nat.le_refl _⟩
    · have e1 : roomOk n 8 = true := roomOk_t (by omega) (by omega)
      have e2 : Nat.beq cs.length n = true := by rw [hl, Nat.mul_one]; exact Nat.beq_refl _
      have e3 : Nat.ble n 0 = false := by
        cases n with
        | zero => exact absurd rfl hn0
        | succ k => rfl
      have e4 : ldRow (h.push (.cells [] false false 1)) h.n 0 0 = some [] := by simp [ldRow, hgz, Nat.ble]
      have hln : l.length = n := by omega
      simp only [appE, hrow, Option.bind_some, Nat.zero_add, Nat.mul_one, Nat.zero_mul, e1, e2, Bool.and_self, cond_t, hz, e3, cond_f, e4, List.nil_append, asS_s, hln]
      exact Ok.some ⟨_, _, rfl, .inr ⟨_, _, _, _, _, rfl, AH.get_push_eq _ _, by show h.n + 1 < h.n + 1 + 1; omega, fun k v hk => by simpa using hk⟩, hf1.trans (Fr.push _ _ _), fun b' hb' => by obtain rfl : (h.push (.cells [] false false 1)).n = b' := hb'; rw [AH.n_push]; omega⟩
/-- how many are not over -/
def openN (ts : List TD) : Nat := (ts.filter fun x => decide (x.st ≠ 3)).length
section
variable {s : Nat} {F : Nat → Prop} {ts : List TD} {line : List Int} {now : Int} {woken : Bool}
theorem openN_take (ts : List TD) (k : Nat) {x : TD} (hx : ts[k]? = some x) : openN (ts.take (k + 1)) = openN (ts.take k) + if x.st ≠ 3 then 1 else 0 := by
  simp only [openN, List.take_add_one, hx, List.filter_append, List.length_append]
  by_cases e : x.st = 3 <;> simp [e]
theorem openN_le (ts : List TD) : openN ts ≤ ts.length := List.length_filter_le _ _
theorem add_loop {h0 : AH} {ta la : Option Addr} {tn tc ln lc : Nat} (hS : SchR h0 s ta tn tc la ln lc ts line now woken) (t : TypeId × Value) (hb : ts.length < 1000000) {Q : Value → AH → Prop}
    (hex : ∀ h, Fr [] h0 h → Ok (sched_Sched_Add_j2 (openN ts : Int) h (some ⟨s, 0, none⟩) (some t)) Q) : ∀ (n i : Nat) (h : AH), ts.length - i = n → i ≤ ts.length → Fr [] h0 h →
    Ok (sched_Sched_Add_L1 (some t) (some ⟨s, 0, none⟩) (openN (ts.take i) : Int) ta tn tc (tn : Int) i h) Q := by
  have htn := hS.tlen
  intro n
  induction n with
  | zero =>
    intro i h hn hi hf
    obtain rfl : i = ts.length := by omega
    refine Ok.le ?_ sched_Sched_Add_L1_le
    refine Ok.le ?_ sched_Sched_Add_j5_le
    rw [dec_f (by omega), cond_f, List.take_of_length_le (Nat.le_refl _)]
    exact hex h hf
  | succ n ih =>
    intro i h hn hi hf
    have hSh := hS.fr hf
    obtain ⟨x, hx⟩ : ∃ x, ts[i]? = some x := ⟨_, List.getElem?_eq_getElem (by omega)⟩
    obtain ⟨tb, rfl, _, e0, e1, e2, _⟩ := hSh.task hx
    refine Ok.le ?_ sched_Sched_Add_L1_le
    refine Ok.le ?_ sched_Sched_Add_j5_le
    rw [dec_t (by omega), cond_t]
    refine Ok.le ?_ sched_Sched_Add_j4_le
    obtain ⟨h1, s1, s2, s3, _⟩ := push_st h [(ifV none), (.int .u8 0), (.int .i64 0)] [(ifV x.t), .int .u8 x.st, .int .i64 x.n] 3 rfl
    have g1 : h1.ldI .u8 h.n (0 + 1) = some x.st := AH.ldI_of s2 rfl
    have hall : [(ifV x.t), Value.int .u8 x.st, .int .i64 x.n].all cellOk = true := by simp only [List.all_cons, List.all_nil, cellOk_ifV, Bool.true_and]; rfl
    simp only [Option.bind_some, htn, inB_t (show (0 : Int) ≤ (i : Int) by omega) (show (i : Int) < (ts.length : Nat) by omega), cond_t, Int.toNat_natCast, e0, e1, e2, hall, s1, g1]
    have ht := openN_take ts i hx
    have hle : openN (ts.take i) ≤ i := Nat.le_trans (openN_le _) (List.length_take_le _ _)
    rw [← htn]
    by_cases c : x.st = 3
    · rw [dec_t c, Bool.not_true, cond_f]
      refine Ok.le ?_ sched_Sched_Add_j3_le
      rw [wrap64 (by omega) (by omega)]
      have ht' : openN (ts.take i) = openN (ts.take (i + 1)) := by rw [ht, if_neg (not_not_intro c)]; rfl
      rw [ht']
      exact ih (i + 1) h1 (by omega) (by omega) (hf.trans s3)
    · rw [dec_f c, Bool.not_false, cond_t]
      refine Ok.le ?_ sched_Sched_Add_j3_le
      rw [wrap64 (by omega) (by omega), wrap64 (by omega) (by omega)]
      rw [if_pos c] at ht
      have : ((openN (ts.take i) : Nat) : Int) + 1 = ((openN (ts.take (i + 1)) : Nat) : Int) := by rw [ht]; rfl
      rw [this]
      exact ih (i + 1) h1 (by omega) (by omega) (hf.trans s3)
theorem add_ok {h : AH} (hs : Sch h s F ts line now woken) (t : TypeId × Value) (hb : ts.length < 100000) (hb2 : line.length < 100000) : Ok (C k_sched_Sched_Add [.pointer (some ⟨s, 0, none⟩), ifV (some t)] h) fun v h' =>
    if 64 ≤ openN ts then v = .tuple #[.int .i64 0, .int .i64 5] ∧ Sch h' s F ts line now woken ∧ Fr [] h h'
    else v = .tuple #[.int .i64 (ts.length + 1), .int .i64 0] ∧ ∃ F', Sch h' s F' (ts ++ [⟨some t, 1, 0⟩]) (line ++ [(ts.length : Int) + 1]) now woken ∧ Moved F F' h h' := by
  obtain ⟨ta, tn, tc, la, ln, lc, hS, hF⟩ := hs
  have htn := hS.tlen
  have hln := hS.llen
  refine Ok.le ?_ sched_Sched_Add_le
  simp only [F_sched_Sched_Add, s_right hS, Option.bind_some, asB_b, Bool.not_true, cond_f, isNilI_some]
  refine Ok.le ?_ sched_Sched_Add_j6_le
  simp only [Option.bind_some, hS.c1]
  refine add_loop hS t (by omega) (fun h1 hf => ?_) _ 0 h rfl (by omega) (.refl _ _)
  refine Ok.le ?_ sched_Sched_Add_j2_le
  have hS1 := hS.fr hf
  by_cases c : 64 ≤ openN ts
  · rw [dec_f (show ¬ ((openN ts : Nat) : Int) < 64 by omega), Bool.not_false, cond_t]
    simp only [if_pos c]
    exact Ok.some ⟨rfl, ⟨_, _, _, _, _, _, hS1, hF⟩, hf⟩
  · rw [dec_t (show ((openN ts : Nat) : Int) < 64 by omega), Bool.not_true, cond_f]
    simp only [if_neg c]
    refine Ok.le ?_ sched_Sched_Add_j1_le
    have hall : [(ifV (some t)), Value.int .u8 1, .int .i64 0].all cellOk = true := by simp only [List.all_cons, List.all_nil, cellOk_ifV, Bool.true_and]; rfl
    have hf2 : Fr [] h1 (h1.push (.cells [(ifV (some t)), (.int .u8 1), (.int .i64 0)] false false 3)) := Fr.push _ _ _
    have hS2 := hS1.fr hf2
    obtain ⟨a', h2, e1, e2, e3, e4, e5⟩ := hS2.tk.app (by_ := 32) (newCells_one (c := 1) (AH.get_push_eq h1 _) rfl) (by rfl) (by omega) (by omega) (by omega)
    have hn1 : (h1.push (.cells [(ifV (some t)), (.int .u8 1), (.int .i64 0)] false false 3)).n = h1.n + 1 := rfl
    have keep : ∀ b, b < h1.n → ¬ blk ta b → h2.get b = h1.get b := fun b hb hne => by rw [e4 b (by omega) hne, AH.get_push_ne _ (by omega)]
    have hsg : h2.get s = some (.cells [.bool true, .slice ta tn tc, .slice la ln lc, .int .i64 now, .bool woken] false false 5) := by rw [keep s hS1.sn hS.d1]; exact hS1.g
    have hsne : ¬ blk a' s := fun hb => by rcases e5 s hb with e | e; exact hS.d1 e; have := hS1.sn; omega
    let h3 := h2.set s (some (.cells [.bool true, .slice a' (tn + 1) opn, .slice la ln lc, .int .i64 now, .bool woken] false false 5))
    have hst3 : h2.st s (0 + 1) [.slice a' (tn + 1) opn] = some h3 := AH.st_of hsg (by simp)
    have hS3 : SchR h3 s a' (tn + 1) opn la ln lc (ts ++ [⟨some t, 1, 0⟩]) line now woken := by
      refine ⟨AH.get_set_eq _ _ _, ?_, ?_, ?_, hsne, hS.d2, fun b hb hl => ?_⟩
      · have : (ts ++ [(⟨some t, 1, 0⟩ : TD)]).flatMap encT = ts.flatMap encT ++ [(ifV (some t)), (.int .u8 1), (.int .i64 0)] := by simp [List.flatMap_append, encT]
        rw [this]
        exact e2.same (fun b g1 g2 => AH.get_set_ne _ (fun e => hsne (e ▸ g2))) (Nat.le_refl _)
      · refine hS1.lk.same (fun b g1 g2 => ?_) (by simp only [h3, AH.n_set]; omega)
        simp only [h3]
        have hbs : b ≠ s := fun e => hS.d2 (e ▸ g2)
        rw [AH.get_set_ne _ hbs, keep b g1 (fun hb => hS.d3 b hb g2)]
      · simp only [h3, AH.n_set]; have := hS1.sn; omega
      · rcases e5 b hb with e | e
        · exact hS.d3 b e hl
        · have := hS1.lk.lt b hl; omega
    have hF3 : ∀ b, (b = s ∨ blk a' b ∨ blk la b) → F b ∨ h1.n ≤ b := by
      rintro b (rfl | hb | hb)
      · exact .inl (hF _ (.inl rfl))
      · rcases e5 b hb with e | e
        · exact .inl (hF _ (.inr (.inl e)))
        · exact .inr (by omega)
      · exact .inl (hF _ (.inr (.inr hb)))
    have mv3 : Moved F (fun b => F b ∨ h1.n ≤ b) h1 h3 := ⟨by simp only [h3, AH.n_set]; omega, fun b g1 g2 => by
      simp only [h3]; rw [AH.get_set_ne _ (fun e => g2 (hF _ (.inl e))), keep b g1 (fun hb => g2 (hF _ (.inr (.inl hb))))], fun b hb => hb⟩
    have hlen3 : ((tn + 1 : Nat) : Int) = (ts.length : Int) + 1 := by rw [htn]; rfl
    obtain ⟨a4, n4, c4, h4, u1, h5, u2, u3, F', u4, u5⟩ := line_push hS3 hF3 ((ts.length : Int) + 1) (by omega)
    have hS3p := hS3.fr (Fr.push [] h3 (.cells [.int .i64 ((ts.length : Int) + 1)] false false 1))
    simp only [Option.bind_some, hS1.c1, cellOk_ifV, Bool.and_self, cond_t, hall, e1, asS_s, hst3, hS3.c2, hS3.c1, hlen3, hS3p.c2, veqO_slice, u1, u2, u3.c1]
    refine Ok.some ⟨rfl, F', ⟨_, _, _, _, _, _, u3, u4⟩, (Moved.fr hf).trans (mv3.trans u5)⟩
end

section
variable {h : AH} {s : Nat} {F : Nat → Prop} {ts : List TD} {line : List Int} {now : Int} {woken : Bool}
theorem ready_ok (hs : Sch h s F ts line now woken) (hb : line.length < 1000000) : Ok (C k_sched_Sched_Ready [.pointer (some ⟨s, 0, none⟩)] h) fun v h' => ∃ a' c', v = .slice a' line.length c' ∧ Rd h' a' (line.flatMap encI) ∧ Fr [] h h' ∧ (∀ b, blk a' b → h.n ≤ b) := by
  obtain ⟨ta, tn, tc, la, ln, lc, hS, hF⟩ := hs
  refine Ok.le ?_ sched_Sched_Ready_le
  simp only [F_sched_Sched_Ready, s_right hS, Option.bind_some, asB_b, Bool.not_true, cond_f]
  refine Ok.le ?_ sched_Sched_Ready_j1_le
  simp only [Option.bind_some, hS.c2]
  refine Ok.bind (clone_ok hS.lk hb) ?_
  rintro _ h1 ⟨a', c', rfl, h2, h3, h4⟩
  simp only [asS_s, Option.bind_some]
  exact Ok.some ⟨a', c', rfl, h2, h3, h4⟩
theorem Sch.fr {h' : AH} (hs : Sch h s F ts line now woken) (hf : Fr [] h h') : Sch h' s F ts line now woken := by
  obtain ⟨ta, tn, tc, la, ln, lc, hS, hF⟩ := hs
  exact ⟨ta, tn, tc, la, ln, lc, hS.fr hf, hF⟩
theorem Sch.away {h' : AH} (hs : Sch h s F ts line now woken) (hg : ∀ b, b < h.n → F b → h'.get b = h.get b) (hn : h.n ≤ h'.n) : Sch h' s F ts line now woken := by
  obtain ⟨ta, tn, tc, la, ln, lc, hS, hF⟩ := hs
  exact ⟨ta, tn, tc, la, ln, lc, hS.same (fun b h1 h2 => hg b h1 (hF b h2)) hn, hF⟩
theorem pick_idle (hs : Sch h s F ts line now woken) (p : Int) (hi : line = [] ∨ now ≠ 0) : C k_sched_Sched_Pick [.pointer (some ⟨s, 0, none⟩), .int .u64 p] h = some (.tuple #[.int .i64 0, .int .u8 0, .bool false], h) := by
  obtain ⟨ta, tn, tc, la, ln, lc, hS, hF⟩ := hs
  have hln := hS.llen
  refine sched_Sched_Pick_le _ ?_
  simp only [F_sched_Sched_Pick, s_right hS, Option.bind_some, asB_b, Bool.not_true, cond_f, hS.c2, hS.c3, hln]
  by_cases he : line.length = 0
  · rw [dec_t (show (line.length : Int) = 0 by omega), cond_t]
    exact sched_Sched_Pick_j4_le _ rfl
  · have : now ≠ 0 := by
      rcases hi with rfl | h
      · exact absurd rfl he
      · exact h
    rw [dec_f (show ¬(line.length : Int) = 0 by omega), cond_f, dec_f this]
    exact sched_Sched_Pick_j4_le _ rfl
/-- what a pick makes of a step's answer -/
def finM (ts : List TD) (line : List Int) (woken : Bool) (id st : Int) : Int × List TD × List Int :=
  if st = 1 ∨ (st = 2 ∧ woken = true) then (1, ts.modify (id - 1).toNat (fun x => { x with st := 1 }), line ++ [id])
  else if st = 2 then (2, ts.modify (id - 1).toNat (fun x => { x with st := 2 }), line)
  else (3, ts.modify (id - 1).toNat (fun x => { x with st := 3 }), line)
theorem wrapu64 {x : Int} (h1 : 0 ≤ x) (h2 : x < 18446744073709551616) : IntKind.wrap .u64 x = x := IntWalk.u64_in x ⟨h1, by omega⟩
theorem set_modify {α : Type} (l : List α) (i : Nat) (f : α → α) {x : α} (hx : l[i]? = some x) : l.set i (f x) = l.modify i f := by
  apply List.ext_getElem?
  intro k
  rw [List.getElem?_modify]
  by_cases e : i = k
  · subst e
    rw [List.getElem?_set_self (List.getElem?_eq_some_iff.mp hx).1]
    simp [hx]
  · rw [List.getElem?_set_ne e]; simp [e]
theorem pick_end {id st st' : Int} (hs : Sch h s F ts line 0 woken) (hid : 1 ≤ id ∧ id ≤ ts.length) (hb : ts.length < 1000000) : Ok (sched_Sched_Pick_j1 (some ⟨s, 0, none⟩) id st' h) fun v h' =>
    v = .tuple #[.int .i64 id, .int .u8 st', .bool true] ∧ Sch h' s F (ts.modify (id - 1).toNat fun x => { x with st := st' }) line 0 woken ∧ Moved F F h h' := by
  obtain ⟨ta, tn, tc, la, ln, lc, hS, hF⟩ := hs
  refine Ok.le ?_ sched_Sched_Pick_j1_le
  obtain ⟨x, hx⟩ : ∃ x, ts[(id - 1).toNat]? = some x := ⟨_, List.getElem?_eq_getElem (by omega)⟩
  obtain ⟨tb, rfl, _, _, _, _, est⟩ := hS.task hx
  obtain ⟨h1, w1, w2, w3, w4⟩ := est 1 [.int .u8 st'] { x with st := st' } (by simp) rfl
  simp only [Option.bind_some, hS.c1, hS.tlen, wrap64 (show -9223372036854775808 ≤ id - 1 by omega) (by omega), inB_t (show 0 ≤ id - 1 by omega) (show id - 1 < (ts.length : Nat) by omega), cond_t, w1]
  have w2' : SchR h1 s (some ⟨tb, 0, none⟩) tn tc la ln lc (ts.modify (id - 1).toNat fun x => { x with st := st' }) line 0 woken := by rw [← set_modify ts _ (fun x => { x with st := st' }) hx]; exact w2
  exact Ok.some ⟨rfl, ⟨_, _, _, _, _, _, w2', hF⟩, ⟨by omega, fun b g1 g2 => w4 b (fun e => g2 (hF _ (.inr (.inl (by rw [e]; rfl))))), fun b hb' => .inl hb'⟩⟩
theorem pick_fin {id st : Int} (hs : Sch h s F ts line 0 woken) (hid : 1 ≤ id ∧ id ≤ ts.length) (hb : ts.length < 1000000) (hb2 : line.length < 1000000) : ∀ b45, b45 = decide (st = 1 ∨ (st = 2 ∧ woken = true)) → Ok (sched_Sched_Pick_j2 (some ⟨s, 0, none⟩) h id st b45) fun v h' =>
    v = .tuple #[.int .i64 id, .int .u8 (finM ts line woken id st).1, .bool true] ∧ ∃ F', Sch h' s F' (finM ts line woken id st).2.1 (finM ts line woken id st).2.2 0 woken ∧ Moved F F' h h' := by
  rintro _ rfl
  refine Ok.le ?_ sched_Sched_Pick_j2_le
  unfold finM
  by_cases c : st = 1 ∨ (st = 2 ∧ woken = true)
  · simp only [if_pos c, dec_t c, cond_t]
    obtain ⟨ta, tn, tc, la, ln, lc, hS, hF⟩ := hs
    obtain ⟨a', n', c', h1, u1, h2, u2, u3, F', u4, u5⟩ := line_push hS hF id hb2
    simp only [Option.bind_some, hS.c2, u1, asS_s, u2]
    refine (pick_end (st := st) (st' := 1) ⟨_, _, _, _, _, _, u3, u4⟩ hid hb).mono ?_
    rintro v h3 ⟨rfl, g1, g2⟩
    exact ⟨rfl, F', g1, u5.trans g2⟩
  · simp only [if_neg c, dec_f c, cond_f]
    by_cases e : st = 2
    · subst e
      simp only [if_pos, decide_true, Bool.not_true, cond_f]
      refine (pick_end (st := 2) (st' := 2) hs hid hb).mono ?_
      rintro v h3 ⟨rfl, g1, g2⟩
      exact ⟨rfl, F, g1, g2⟩
    · simp only [if_neg e, dec_f e, Bool.not_false, cond_t]
      refine (pick_end (st := st) (st' := 3) hs hid hb).mono ?_
      rintro v h3 ⟨rfl, g1, g2⟩
      exact ⟨rfl, F, g1, g2⟩
theorem pick_go (hs : Sch h s F ts line 0 woken) {p : Int} (hp0 : 0 ≤ p) (hne : line ≠ []) (hb : ts.length < 1000000) (hb2 : line.length < 1000000) {id : Int} (hat : line[(p % (line.length : Int)).toNat]? = some id) (hid : 1 ≤ id ∧ id ≤ ts.length)
    {x : TD} (hx : ts[(id - 1).toNat]? = some x) (hxn : 0 ≤ x.n ∧ x.n < 1000000) {R : Int → (Nat → Prop) → List TD → List Int → Bool → AH → Prop}
    (hstep : ∀ h1 F1, Sch h1 s F1 (ts.set (id - 1).toNat { x with n := x.n + 1 }) (line.eraseIdx (p % (line.length : Int)).toNat) id false → Moved F F1 h h1 →
      ∃ f args, ifcQ Try.prog "Step" (ifV x.t) = some (f, args, []) ∧ hasBody Try.prog f = true ∧ Ok (C f args h1) fun v h2 => ∃ st F2 ts2 line2 woken2, v = .int .u8 st ∧ Sch h2 s F2 ts2 line2 id woken2 ∧ ts2.length = ts.length ∧ line2.length < 1000000 ∧ R st F2 ts2 line2 woken2 h2) :
    Ok (C k_sched_Sched_Pick [.pointer (some ⟨s, 0, none⟩), .int .u64 p] h) fun v h' => ∃ st F2 ts2 line2 woken2 h2, R st F2 ts2 line2 woken2 h2 ∧ v = .tuple #[.int .i64 id, .int .u8 (finM ts2 line2 woken2 id st).1, .bool true] ∧
      ∃ F', Sch h' s F' (finM ts2 line2 woken2 id st).2.1 (finM ts2 line2 woken2 id st).2.2 0 woken2 ∧ Moved F2 F' h2 h' := by
  obtain ⟨ta, tn, tc, la, ln, lc, hS, hF⟩ := hs
  have htn := hS.tlen
  subst htn
  have hln := hS.llen
  have hpos : 0 < line.length := List.length_pos_iff.mpr hne
  generalize hatn : (p % (line.length : Int)).toNat = k at *
  have hk : k < line.length := (List.getElem?_eq_some_iff.mp hat).1
  have hmod : p.tmod (line.length : Int) = (k : Int) := by
    rw [Int.tmod_eq_emod_of_nonneg hp0]
    have := Int.emod_nonneg p (show (line.length : Int) ≠ 0 by omega)
    omega
  refine Ok.le ?_ sched_Sched_Pick_le
  simp only [F_sched_Sched_Pick, s_right hS, Option.bind_some, asB_b, Bool.not_true, cond_f, hS.c2, hS.c3, hln, dec_f (show ¬(line.length : Int) = 0 by omega), decide_true]
  refine Ok.le ?_ sched_Sched_Pick_j4_le
  rw [cond_f]
  refine Ok.le ?_ sched_Sched_Pick_j3_le
  -- the line is a row of its own
  have hlk := hS.lk
  generalize hcs : line.flatMap encI = cs at hlk
  cases hlk with
  | nil => have := hln; omega
  | @mk lb _ m _ rest hg hl hr hlb =>
  rw [← hcs] at hg
  have hlk' := hS.lk
  obtain ⟨h1, rest', d1, d2, d3, d4, d5⟩ := delete_eq hg hln (at_ := k) (by omega) (by omega) (x1 := (k : Int)) (x2 := (k : Int) + 1) rfl rfl
  have hidl : h.ldI .i64 lb (0 + k * 1) = some id := AH.ldI_of hg (by
    rw [Nat.zero_add, List.getElem?_append_left (by rw [flat_len encI_len]; omega)]
    have := flat_get_some encI_len (j := 0) (by omega) hat
    simpa [encI] using this)
  have hlen1 : (line.eraseIdx k).length = line.length - 1 := by rw [List.length_eraseIdx, if_pos hk]
  let g2 := h1.set s (some (.cells [.bool true, .slice ta ts.length tc, .slice (some ⟨lb, 0, none⟩) (line.length - 1) opn, .int .i64 0, .bool woken] false false 5))
  have hsl : s ≠ lb := fun e => hS.d2 (by rw [e]; rfl)
  have hsg1 : h1.get s = some (.cells [.bool true, .slice ta ts.length tc, .slice (some ⟨lb, 0, none⟩) ln opn, .int .i64 0, .bool woken] false false 5) := by rw [d5 s hsl]; exact hS.g
  have hstL : h1.st s (0 + 2) [.slice (some ⟨lb, 0, none⟩) (line.length - 1) opn] = some g2 := AH.st_of hsg1 (by simp)
  have hS2 : SchR g2 s ta ts.length tc (some ⟨lb, 0, none⟩) (line.length - 1) opn ts (line.eraseIdx k) 0 woken := by
    refine ⟨AH.get_set_eq _ _ _, hS.tk.same (fun b g1 g3 => ?_) (by simp only [g2, AH.n_set]; omega), .mk (rest := rest') (m := m + 1) ?_ ?_ ?_ ?_, ?_, hS.d1, hS.d2, hS.d3⟩
    · have e1 : b ≠ s := fun e => hS.d1 (e ▸ g3)
      have e2 : b ≠ lb := fun e => hS.d3 b g3 (by rw [e]; rfl)
      simp only [g2]
      rw [AH.get_set_ne _ e1, d5 b e2]
    · simp only [g2]
      rw [AH.get_set_ne _ (Ne.symm hsl)]; exact d2
    · rw [flat_len encI_len, hlen1]
    · rw [d3, hr]; simp only [Nat.mul_one]
    · simp only [g2, AH.n_set]; omega
    · simp only [g2, AH.n_set]; have := hS.sn; omega
  have hS3 := hS2.fld id woken
  have hS4 := hS3.fld id false
  have hx4 : ts[(id - 1).toNat]? = some x := hx
  obtain ⟨tb, rfl, _, _, _, e2, est⟩ := hS4.task hx4
  obtain ⟨h5, w1, hS5, w3, w4⟩ := est 2 [.int .i64 (x.n + 1)] { x with n := x.n + 1 } (by simp) rfl
  obtain ⟨tb', htb, e5, _, _, _, _⟩ := hS5.task (i := (id - 1).toNat) (x := { x with n := x.n + 1 }) (List.getElem?_set_self (List.getElem?_eq_some_iff.mp hx).1)
  obtain rfl : tb = tb' := by simpa using htb
  have hlen5 : (ts.set (id - 1).toNat { x with n := x.n + 1 }).length = ts.length := by simp
  have hF5 : ∀ b, (b = s ∨ blk (some ⟨tb, 0, none⟩) b ∨ blk (some ⟨lb, 0, none⟩) b) → F b := hF
  have mv : Moved F F h h5 := by
    refine ⟨?_, fun b g1 g3 => ?_, fun b hb' => .inl hb'⟩
    · rw [w3]; simp only [AH.n_set, g2]; omega
    · have e1 : b ≠ s := fun e => g3 (hF _ (.inl e))
      have e2 : b ≠ lb := fun e => g3 (hF _ (.inr (.inr (by rw [e]; rfl))))
      have e3 : b ≠ tb := fun e => g3 (hF _ (.inr (.inl (by rw [e]; rfl))))
      rw [w4 b e3, AH.get_set_ne _ e1, AH.get_set_ne _ e1]
      simp only [g2]
      rw [AH.get_set_ne _ e1, d5 b e2]
  obtain ⟨f, args, q1, q2, q3⟩ := hstep h5 F ⟨_, _, _, _, _, _, hS5, hF5⟩ mv
  have hw1 : IntKind.wrap .u64 (line.length : Int) = (line.length : Int) := wrapu64 (by omega) (by omega)
  have hw2 : IntKind.wrap .i64 (k : Int) = (k : Int) := wrap64 (by omega) (by omega)
  have hw3 : IntKind.wrap .i64 ((k : Int) + 1) = (k : Int) + 1 := wrap64 (by omega) (by omega)
  have hw4 : IntKind.wrap .i64 (id - 1) = id - 1 := wrap64 (by omega) (by omega)
  have hw5 : IntKind.wrap .i64 (x.n + 1) = x.n + 1 := wrap64 (by omega) (by omega)
  have hln' : ln = line.length := hln
  subst hln'
  have i1 := inB_t (show (0 : Int) ≤ (k : Int) by omega) (show (k : Int) < (line.length : Nat) by omega)
  have i2 := inB_t (show 0 ≤ id - 1 by omega) (show id - 1 < (ts.length : Nat) by omega)
  simp only [Option.bind_some, hS.c2, hw1, hmod, hw2, hw3, hw4, hw5, dec_f (show ¬(line.length : Int) = 0 by omega), Bool.not_false, cond_t, i1, Int.toNat_natCast, hidl, d1, asS_s, hstL, hS2.stNow, hS3.stWoken, hS4.c1, i2, e2, w1, hS5.c1, e5, q1, q2, List.append_nil]
  refine Ok.bind q3 ?_
  rintro _ h6 ⟨st, F2, ts2, line2, woken2, rfl, hs6, hl6, hl62, hR⟩
  obtain ⟨ta6, tn6, tc6, la6, ln6, lc6, hS6, hF6⟩ := hs6
  have hS7 := hS6.fld 0 woken2
  have hs7 : Sch _ s F2 ts2 line2 0 woken2 := ⟨_, _, _, _, _, _, hS7, hF6⟩
  have mv7 : Moved F2 F2 h6 (h6.set s (some (.cells [.bool true, .slice ta6 tn6 tc6, .slice la6 ln6 lc6, .int .i64 0, .bool woken2] false false 5))) :=
    ⟨Nat.le_refl _, fun b g1 g3 => AH.get_set_ne _ (fun e => g3 (hF6 _ (.inl e))), fun b hb' => .inl hb'⟩
  have hfin := pick_fin (st := st) hs7 (by rw [hl6]; exact hid) (by omega) hl62
  have fin : ∀ b45, b45 = decide (st = 1 ∨ (st = 2 ∧ woken2 = true)) → Ok (sched_Sched_Pick_j2 (some ⟨s, 0, none⟩) (h6.set s (some (.cells [.bool true, .slice ta6 tn6 tc6, .slice la6 ln6 lc6, .int .i64 0, .bool woken2] false false 5))) id st b45) fun v h' =>
      ∃ st F2 ts2 line2 woken2 h2, R st F2 ts2 line2 woken2 h2 ∧ v = .tuple #[.int .i64 id, .int .u8 (finM ts2 line2 woken2 id st).1, .bool true] ∧ ∃ F', Sch h' s F' (finM ts2 line2 woken2 id st).2.1 (finM ts2 line2 woken2 id st).2.2 0 woken2 ∧ Moved F2 F' h2 h' := fun b45 hb45 => by
    refine (hfin b45 hb45).mono ?_
    rintro v h8 ⟨rfl, F', g1, g3⟩
    exact ⟨st, F2, ts2, line2, woken2, h6, hR, rfl, F', g1, mv7.trans g3⟩
  simp only [asI_u8, Option.bind_some, hS6.stNow]
  by_cases c1 : st = 1
  · rw [dec_t c1, cond_t]; exact fin _ (by rw [dec_t (.inl c1)])
  · rw [dec_f c1, cond_f]
    by_cases c2 : st = 2
    · rw [dec_t c2, cond_t]
      simp only [hS7.c4, Option.bind_some]
      refine fin _ ?_
      cases woken2 <;> simp [c1, c2]
    · rw [dec_f c2, cond_f]; exact fin _ (by rw [dec_f (fun e => by rcases e with e | e; exact c1 e; exact c2 e.1)])
end
end Go.Lg.Try
