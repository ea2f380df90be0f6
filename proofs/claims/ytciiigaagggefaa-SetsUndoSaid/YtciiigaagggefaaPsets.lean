/- What the functions of Sets[int] come to, over the abstract memory. -/
import Derived.Test.YtciiigaagggefaaFsets
import Derived.Test.YtciiigaagggefaaFmaps
import Derived.Test.YtciiigaagggefaaFcmp
import Derived.Test.YtciiigaagggefaaEv37
import Derived.Test.YtciiigaagggefaaEv31
namespace Go.Lg.Try
set_option linter.unusedVariables false
set_option linter.unusedSimpArgs false
open Go Go.Proofs
structure Old where
  i : Int
  v : Int
  none : Bool
def encOld (o : Old) : List Value := [.int .i64 o.i, .int .i64 o.v, .bool o.none]
theorem encOld_len (o : Old) : (encOld o).length = 3 := rfl
/-- where the parts of the sets lie -/
structure SA where
  rb : Nat
  wb : Nat
  pa : Option Addr
  pn : Nat
  pc : Nat
  ma : Option Addr
  mn : Nat
  mc : Nat
structure SR (h : AH) (s : Nat) (A : SA) (reads writes : List (Int × Int)) (past : List Old) (marks : List Int) : Prop where
  g : h.get s = some (.cells [.map (some A.rb), .map (some A.wb), .slice A.pa A.pn A.pc, .slice A.ma A.mn A.mc] false false 4)
  r : MI h A.rb reads
  w : MI h A.wb writes
  po : OwS h 3 A.pa A.pn A.pc (past.flatMap encOld)
  mo : OwS h 1 A.ma A.mn A.mc (marks.flatMap encI)
  sn : s < h.n
  d1 : s ≠ A.rb
  d2 : s ≠ A.wb
  d3 : A.rb ≠ A.wb
  p1 : ¬ blk A.pa s
  p2 : ¬ blk A.pa A.rb
  p3 : ¬ blk A.pa A.wb
  m1 : ¬ blk A.ma s
  m2 : ¬ blk A.ma A.rb
  m3 : ¬ blk A.ma A.wb
  pm : ∀ b, blk A.pa b → ¬ blk A.ma b
def own (s : Nat) (A : SA) (b : Nat) : Prop := b = s ∨ b = A.rb ∨ b = A.wb ∨ blk A.pa b ∨ blk A.ma b
section
variable {h h' : AH} {s : Nat} {A : SA} {reads writes : List (Int × Int)} {past : List Old} {marks : List Int}
namespace SR
theorem plen (hs : SR h s A reads writes past marks) : A.pn = past.length := by have := hs.po.len; rw [flat_len encOld_len] at this; omega
theorem mlen (hs : SR h s A reads writes past marks) : A.mn = marks.length := by have := hs.mo.len; rw [flat_len encI_len] at this; omega
theorem c0 (hs : SR h s A reads writes past marks) : h.ldM s (0 + 0) = some (some A.rb) := AH.ldM_of hs.g rfl
theorem c1 (hs : SR h s A reads writes past marks) : h.ldM s (0 + 1) = some (some A.wb) := AH.ldM_of hs.g rfl
theorem c2 (hs : SR h s A reads writes past marks) : h.ldS s (0 + 2) = some (A.pa, A.pn, A.pc) := AH.ldS_of hs.g rfl
theorem c3 (hs : SR h s A reads writes past marks) : h.ldS s (0 + 3) = some (A.ma, A.mn, A.mc) := AH.ldS_of hs.g rfl
theorem same (hs : SR h s A reads writes past marks) (hg : ∀ b, b < h.n → own s A b → h'.get b = h.get b) (hn : h.n ≤ h'.n) : SR h' s A reads writes past marks :=
  ⟨by rw [hg s hs.sn (.inl rfl)]; exact hs.g, hs.r.same (hg _ hs.r.lt (.inr (.inl rfl))) hn, hs.w.same (hg _ hs.w.lt (.inr (.inr (.inl rfl)))) hn, hs.po.same (fun b h1 h2 => hg b h1 (.inr (.inr (.inr (.inl h2))))) hn, hs.mo.same (fun b h1 h2 => hg b h1 (.inr (.inr (.inr (.inr h2))))) hn, Nat.lt_of_lt_of_le hs.sn hn, hs.d1, hs.d2, hs.d3, hs.p1, hs.p2, hs.p3, hs.m1, hs.m2, hs.m3, hs.pm⟩
theorem fr (hs : SR h s A reads writes past marks) (hf : Fr [] h h') : SR h' s A reads writes past marks := hs.same (fun b hb _ => hf.g b hb (by simp)) hf.n
theorem lt (hs : SR h s A reads writes past marks) : ∀ b, own s A b → b < h.n := fun b hb => by
  rcases hb with rfl | rfl | rfl | hb | hb
  · exact hs.sn
  · exact hs.r.lt
  · exact hs.w.lt
  · exact hs.po.lt b hb
  · exact hs.mo.lt b hb
end SR
theorem set_right (hs : SR h s A reads writes past marks) : C k_sets_Sets_int_right [.pointer (some ⟨s, 0, none⟩)] h = some (.bool true, h) := by
  refine sets_Sets_int_right_le _ ?_
  simp only [F_sets_Sets_int_right, Option.isNone_some, Bool.not_false, cond_t, Option.bind_some, hs.c0]
def mayM (i : Int) : Int := if i < 0 ∨ 1024 ≤ i then 2 else 0
theorem set_may (hs : SR h s A reads writes past marks) (i : Int) : C k_sets_Sets_int_may [.pointer (some ⟨s, 0, none⟩), .int .i64 i] h = some (.int .i64 (mayM i), h) := by
  refine sets_Sets_int_may_le _ ?_
  simp only [F_sets_Sets_int_may, set_right hs, Option.bind_some, asB_b, Bool.not_true, cond_f, mayM]
  by_cases a : i < 0
  · rw [dec_t a, cond_t, if_pos (.inl a)]
  · rw [dec_f a, cond_f]
    by_cases b : i < 1024
    · rw [dec_t b, Bool.not_true, cond_f, if_neg (by omega)]
      exact sets_Sets_int_may_j1_le _ rfl
    · rw [dec_f b, Bool.not_false, cond_t, if_pos (.inr (by omega))]
theorem z2 : zeroOf Try.prog 2 = some (.int .i64 0) := by kernel_rfl
theorem z3 : zeroOf Try.prog 3 = some (.int .i64 0) := by kernel_rfl
/-- one of the maps has turned -/
theorem SR.setR (hs : SR h s A reads writes past marks) (i v : Int) : ∃ h', aput (.int .i64) (.map (some A.rb)) (.int .i64 i) (.int .i64 v) h = some h' ∧ SR h' s A (aputL reads i v) writes past marks ∧ h'.n = h.n ∧ ∀ b, b ≠ A.rb → h'.get b = h.get b := by
  obtain ⟨h', e1, e2, e3, e4⟩ := hs.r.put i v
  have hn : h.n ≤ h'.n := by omega
  exact ⟨h', e1, ⟨by rw [e4 s hs.d1]; exact hs.g, e2, hs.w.same (e4 _ (Ne.symm hs.d3)) hn, hs.po.same (fun b _ hb => e4 b (fun e => hs.p2 (e ▸ hb))) hn, hs.mo.same (fun b _ hb => e4 b (fun e => hs.m2 (e ▸ hb))) hn, by rw [e3]; exact hs.sn, hs.d1, hs.d2, hs.d3, hs.p1, hs.p2, hs.p3, hs.m1, hs.m2, hs.m3, hs.pm⟩, e3, e4⟩
theorem SR.setW (hs : SR h s A reads writes past marks) (i v : Int) : ∃ h', aput (.int .i64) (.map (some A.wb)) (.int .i64 i) (.int .i64 v) h = some h' ∧ SR h' s A reads (aputL writes i v) past marks ∧ h'.n = h.n ∧ ∀ b, b ≠ A.wb → h'.get b = h.get b := by
  obtain ⟨h', e1, e2, e3, e4⟩ := hs.w.put i v
  have hn : h.n ≤ h'.n := by omega
  exact ⟨h', e1, ⟨by rw [e4 s hs.d2]; exact hs.g, hs.r.same (e4 _ hs.d3) hn, e2, hs.po.same (fun b _ hb => e4 b (fun e => hs.p3 (e ▸ hb))) hn, hs.mo.same (fun b _ hb => e4 b (fun e => hs.m3 (e ▸ hb))) hn, by rw [e3]; exact hs.sn, hs.d1, hs.d2, hs.d3, hs.p1, hs.p2, hs.p3, hs.m1, hs.m2, hs.m3, hs.pm⟩, e3, e4⟩
theorem SR.delW (hs : SR h s A reads writes past marks) (i : Int) : ∃ h', adel (.int .i64) (.map (some A.wb)) (.int .i64 i) h = some h' ∧ SR h' s A reads (adelL writes i) past marks ∧ h'.n = h.n ∧ ∀ b, b ≠ A.wb → h'.get b = h.get b := by
  obtain ⟨h', e1, e2, e3, e4⟩ := hs.w.del i
  have hn : h.n ≤ h'.n := by omega
  exact ⟨h', e1, ⟨by rw [e4 s hs.d2]; exact hs.g, hs.r.same (e4 _ hs.d3) hn, e2, hs.po.same (fun b _ hb => e4 b (fun e => hs.p3 (e ▸ hb))) hn, hs.mo.same (fun b _ hb => e4 b (fun e => hs.m3 (e ▸ hb))) hn, by rw [e3]; exact hs.sn, hs.d1, hs.d2, hs.d3, hs.p1, hs.p2, hs.p3, hs.m1, hs.m2, hs.m3, hs.pm⟩, e3, e4⟩
/-! what is told -/
theorem set_seen (hs : SR h s A reads writes past marks) (i : Int) : C k_sets_Sets_int_Seen [.pointer (some ⟨s, 0, none⟩), .int .i64 i] h = some (.tuple #[.int .i64 (aval (alook reads i)), .bool (aok (alook reads i))], h) := by
  obtain ⟨es, m1, m2, m3⟩ := hs.r.map
  refine sets_Sets_int_Seen_le _ ?_
  simp only [F_sets_Sets_int_Seen, set_right hs, Option.bind_some, asB_b, Bool.not_true, cond_f]
  refine sets_Sets_int_Seen_j1_le _ ?_
  simp only [Option.bind_some, hs.c0, m1, look_eq z2 m3, asI_i64]
theorem set_value (hs : SR h s A reads writes past marks) (i : Int) : C k_sets_Sets_int_Value [.pointer (some ⟨s, 0, none⟩), .int .i64 i] h = some (.tuple #[.int .i64 (aval (alook writes i)), .bool (aok (alook writes i))], h) := by
  obtain ⟨es, m1, m2, m3⟩ := hs.w.map
  refine sets_Sets_int_Value_le _ ?_
  simp only [F_sets_Sets_int_Value, set_right hs, Option.bind_some, asB_b, Bool.not_true, cond_f]
  refine sets_Sets_int_Value_j1_le _ ?_
  simp only [Option.bind_some, hs.c1, m1, look_eq z3 m3, asI_i64]
theorem set_depth (hs : SR h s A reads writes past marks) : C k_sets_Sets_int_Depth [.pointer (some ⟨s, 0, none⟩)] h = some (.int .i64 (marks.length : Nat), h) := by
  refine sets_Sets_int_Depth_le _ ?_
  simp only [F_sets_Sets_int_Depth, set_right hs, Option.bind_some, asB_b, Bool.not_true, cond_f]
  refine sets_Sets_int_Depth_j1_le _ ?_
  simp only [Option.bind_some, hs.c3, hs.mlen]
/-! Read -/
def readM (reads : List (Int × Int)) (i v : Int) : Int × List (Int × Int) :=
  if i < 0 ∨ 1024 ≤ i then (2, reads) else if v < 0 then (2, reads) else match alook reads i with
    | some w => if w = v then (0, reads) else (131, reads)
    | none => if reads.length = 256 then (3, reads) else (0, aputL reads i v)
theorem aput_same {l : List (Int × Int)} {i v : Int} (h : alook l i = some v) : aputL l i v = l := by
  induction l with
  | nil => simp [alook] at h
  | cons p l ih =>
    unfold alook at h
    unfold aputL
    by_cases c : p.1 = i
    · rw [if_pos c] at h ⊢
      obtain rfl := Option.some.inj h
      rw [← c]
    · rw [if_neg c] at h ⊢
      rw [ih h]
theorem set_read (hs : SR h s A reads writes past marks) (i v : Int) : Ok (C k_sets_Sets_int_Read [.pointer (some ⟨s, 0, none⟩), .int .i64 i, .int .i64 v] h) fun x h' => x = .int .i64 (readM reads i v).1 ∧ SR h' s A (readM reads i v).2 writes past marks ∧ h'.n = h.n ∧ ∀ b, b ≠ A.rb → h'.get b = h.get b := by
  obtain ⟨es, m1, m2, m3⟩ := hs.r.map
  have stay : ∀ (P : Prop), P → P := fun _ h => h
  refine Ok.le ?_ sets_Sets_int_Read_le
  simp only [F_sets_Sets_int_Read, set_may hs, Option.bind_some, asI_i64, mayM, readM]
  by_cases a : i < 0 ∨ 1024 ≤ i
  · rw [if_pos a, if_pos a]
    have z : (!decide ((2 : Int) = 0)) = true := rfl
    rw [z, cond_t]
    exact Ok.some ⟨rfl, hs, rfl, fun _ _ => rfl⟩
  · rw [if_neg a, if_neg a]
    have z : (!decide ((0 : Int) = 0)) = false := rfl
    rw [z, cond_f]
    refine Ok.le ?_ sets_Sets_int_Read_j3_le
    simp only [Option.bind_some, hs.c0, m1, look_eq z2 m3, asI_i64]
    by_cases b : v < 0
    · rw [dec_t b, cond_t, if_pos b]
      exact Ok.some ⟨rfl, hs, rfl, fun _ _ => rfl⟩
    · rw [dec_f b, cond_f, if_neg b]
      obtain ⟨h1, e1, e2, e3, e4⟩ := hs.setR i v
      cases hl : alook reads i with
      | some w =>
        simp only [aok, Option.isSome_some, cond_t]
        refine Ok.le ?_ sets_Sets_int_Read_j2_le
        by_cases c : w = v
        · rw [dec_t (show aval (some w) = v from c), Bool.not_true, cond_f, cond_f, if_pos c]
          refine Ok.le ?_ sets_Sets_int_Read_j1_le
          simp only [Option.bind_some, hs.c0, e1]
          rw [aput_same (by rw [hl, c])] at e2
          exact Ok.some ⟨rfl, e2, e3, e4⟩
        · rw [dec_f (show ¬ aval (some w) = v from c), Bool.not_false, cond_t, if_neg c]
          exact Ok.some ⟨rfl, hs, rfl, fun _ _ => rfl⟩
      | none =>
        simp only [aok, Option.isSome_none, cond_f]
        refine Ok.le ?_ sets_Sets_int_Read_j2_le
        simp only [cond_f, Bool.not_false, cond_t, Option.bind_some, hs.c0, m1, m2]
        by_cases c : reads.length = 256
        · rw [dec_t (by omega), cond_t, if_pos c]
          exact Ok.some ⟨rfl, hs, rfl, fun _ _ => rfl⟩
        · rw [dec_f (by omega), cond_f, if_neg c]
          refine Ok.le ?_ sets_Sets_int_Read_j1_le
          simp only [Option.bind_some, hs.c0, e1]
          exact Ok.some ⟨rfl, e2, e3, e4⟩
end
end Go.Lg.Try
