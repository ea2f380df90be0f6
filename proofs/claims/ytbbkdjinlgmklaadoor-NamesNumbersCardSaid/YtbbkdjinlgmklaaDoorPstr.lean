/- The library's functions on strings that are taken by the kit's contracts, laid at this seat. -/
import Derived.Test.YtbbkdjinlgmklaaDoorF0
import Derived.Ground.NamesProg
import Derived.Ground.GgwProg
import Derived.Shelf.Lay
import Derived.Shelf.SlGeneric
namespace Go.Proofs
open Go.Shelf Go.RowKit Go.Lib
shelf_lay Lays.n143 Nm 143 at Tryd as Tryd.indexL
shelf_lay Lays.n138 Nm 138 at Tryd as Tryd.countL
shelf_lay Lays.n156 Nm 156 at Tryd as Tryd.joinL
theorem Tryd.joinX : Builder.Extra Tryd.prog Tryd.joinL_ren where
  sizeBuilder := by kernel_rfl
  liesBuilder := by kernel_rfl
  t5 := Tryd.countL.t5
  a5 := Tryd.countL.a5
  z5 := Tryd.countL.z5
  v5 := Tryd.countL.v5
  infoByte := by kernel_rfl
  cellsByte := by kernel_rfl
  sizeByte := by kernel_rfl
  neB5 := by decide
shelf_lay_g LaysGw.n15 Ggw 15 at Tryd 25 as Tryd.ifL
theorem Tryd.never1 (r : Nat) (W : World) : Calls Tryd.prog 24 #[.int .i32 (r : Int)] W fun e w' => e = .returned (.bool (Go.Lg.badR r)) ∧ ∃ q, w' = W.drewN q := by
  by_cases h0 : r = 0
  · subst h0; go_enter Tryd.func24, Tryd.ntmps24
    go_wp2
    go_ret
    exact ⟨rfl, 0, rfl⟩
  by_cases h1 : r = 47
  · subst h1; go_enter Tryd.func24, Tryd.ntmps24
    go_wp2
    go_ret
    exact ⟨rfl, 0, rfl⟩
  have e0 : ((r : Int) == 0) = false := beq_eq_false_iff_ne.2 (by omega)
  have e1 : ((r : Int) == 47) = false := beq_eq_false_iff_ne.2 (by omega)
  have e2 : Go.Lg.badR r = false := by unfold Go.Lg.badR; rw [Bool.or_eq_false_iff]; exact ⟨Bool.eq_false_iff.2 fun h => h0 (Nat.eq_of_beq_eq_true h), Bool.eq_false_iff.2 fun h => h1 (Nat.eq_of_beq_eq_true h)⟩
  go_enter Tryd.func24, Tryd.ntmps24
  go_wp2
  go_ret
  exact ⟨by rw [e2]; rfl, 0, rfl⟩
end Go.Proofs
namespace Go.Lg.Tryd
open Go Go.Proofs
theorem str_ok : OvOK Tryd.prog strO := libO_ok (orO_ok (index_ok (by kernel_rfl) ⟨_, Proofs.Tryd.indexL, rfl⟩) (orO_ok (count_ok (by kernel_rfl) ⟨_, Proofs.Tryd.countL, rfl⟩) (orO_ok (join_ok (by kernel_rfl) ⟨_, Proofs.Tryd.joinL, Proofs.Tryd.joinX, rfl⟩) (idx_ok (by kernel_rfl) ⟨_, Proofs.Tryd.ifL, rfl⟩ (Go.Proofs.enters_of Tryd.func24 (by kernel_rfl) rfl) Proofs.Tryd.never1))))
end Go.Lg.Tryd
