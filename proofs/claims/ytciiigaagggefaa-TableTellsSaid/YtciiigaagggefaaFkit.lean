/- The program by the evaluator's limit: what its functions come to. -/
import Derived.Test.YtciiigaagggefaaF0
namespace Go.Lg.Try
open Go Go.Proofs
set_option linter.unusedVariables false
set_option maxRecDepth 1000000
/-- ledgerstone/ledgerstonekit.Pick -/
noncomputable def kit_Pick_j1 (h3 : Lg.AH) (x4 : Int) : Res := O.code 16 (keepT k_kit_Pick) (codeAt Try.prog k_kit_Pick [1, 1, 1, 1]) (T.nil.set 0 (some (.int .i64 x4))) h3 (endK Try.prog none (resOf Try.prog k_kit_Pick))
noncomputable def kit_Pick_j2 (x2 : Int) (x1 : Int) (h3 : Lg.AH) : Res := O.code 16 (keepT k_kit_Pick) (codeAt Try.prog k_kit_Pick [1, 1]) ((T.nil.set 1 (some (.int .i64 x2))).set 0 (some (.int .i64 x1))) h3 (endK Try.prog none (resOf Try.prog k_kit_Pick))
theorem kit_Pick_j1_le {h3 : Lg.AH} {x4 : Int} : Le ((some ((.int .i64 x4), h3))) (kit_Pick_j1 h3 x4) := G_of (by kernel_rfl)
theorem kit_Pick_j2_le {x2 : Int} {x1 : Int} {h3 : Lg.AH} : Le ((cond (!decide (x2 = 0)) (cond (decide ((x1).tmod x2 < 0)) (kit_Pick_j1 h3 (IntKind.wrap .i64 (((x1).tmod x2) + x2))) (kit_Pick_j1 h3 ((x1).tmod x2))) none)) (kit_Pick_j2 x2 x1 h3) := G_of (by kernel_rfl)
noncomputable def F_kit_Pick (x1 : Int) (x2 : Int) (h3 : AH) : Res := (cond (decide (x2 < 1)) (some ((.int .i64 0), h3)) (kit_Pick_j2 x2 x1 h3))
theorem kit_Pick_le {x1 : Int} {x2 : Int} {h3 : AH} : Le (F_kit_Pick x1 x2 h3) (C k_kit_Pick [(.int .i64 x1), (.int .i64 x2)] h3) := C_of (by kernel_rfl) (by kernel_rfl)

/-- ledgerstone/ledgerstonekit.SameInts -/
noncomputable def kit_SameInts_K1 : Ex → T Value → AH → Res := seqK (fun tm h => O.code 26 (keepT k_kit_SameInts) (codeAt Try.prog k_kit_SameInts [1, 1, 1]) (scrubO tm (keepT k_kit_SameInts 26)) h (endK Try.prog none (resOf Try.prog k_kit_SameInts))) (endK Try.prog none (resOf Try.prog k_kit_SameInts))
noncomputable def kit_SameInts_K2 : Ex → T Value → AH → Res := blkK 0 kit_SameInts_K1
noncomputable def kit_SameInts_K3 : Ex → T Value → AH → Res := scrK (keepT k_kit_SameInts 13) kit_SameInts_K2
noncomputable def kit_SameInts_K4 : Ex → T Value → AH → Res := loopK (fun tm h => O.loop 26 (keepT k_kit_SameInts) (codeAt Try.prog k_kit_SameInts [1, 1, 0, 1, 0, 0]) (scrubO tm (keepT k_kit_SameInts 12)) h kit_SameInts_K3) kit_SameInts_K3
noncomputable def kit_SameInts_L1 (l2 : Nat) (a1 : Option Addr) (a4 : Option Addr) (l5 : Nat) (c6 : Nat) (c3 : Nat) (x8 : Int) (h9 : AH) : Res := O.loop 26 (keepT k_kit_SameInts) (codeAt Try.prog k_kit_SameInts [1, 1, 0, 1, 0, 0]) (((T.nil.set 5 (some (.int .i64 x8))).set 1 (some (.slice a4 l5 c6))).set 0 (some (.slice a1 l2 c3))) h9 kit_SameInts_K3
noncomputable def kit_SameInts_j1 (h9 : Lg.AH) : Res := O.code 26 (keepT k_kit_SameInts) (codeAt Try.prog k_kit_SameInts [1, 1, 1]) T.nil h9 (endK Try.prog none (resOf Try.prog k_kit_SameInts))
noncomputable def kit_SameInts_j2 (l2 : Nat) (a1 : Option Addr) (a4 : Option Addr) (l5 : Nat) (c6 : Nat) (c3 : Nat) (x8 : Int) (h9 : Lg.AH) : Res := O.code 26 (keepT k_kit_SameInts) (codeAt Try.prog k_kit_SameInts [1, 1, 0, 1, 0, 0, 1, 1]) (((T.nil.set 5 (some (.int .i64 x8))).set 1 (some (.slice a4 l5 c6))).set 0 (some (.slice a1 l2 c3))) h9 kit_SameInts_K4
noncomputable def kit_SameInts_j3 (a1 : Option Addr) (x8 : Int) (l2 : Nat) (h9 : Lg.AH) (a4 : Option Addr) (l5 : Nat) (c6 : Nat) (c3 : Nat) : Res := O.code 26 (keepT k_kit_SameInts) (codeAt Try.prog k_kit_SameInts [1, 1, 0, 1, 0, 0, 1]) (((T.nil.set 5 (some (.int .i64 x8))).set 1 (some (.slice a4 l5 c6))).set 0 (some (.slice a1 l2 c3))) h9 kit_SameInts_K4
noncomputable def kit_SameInts_j4 (l2 : Nat) (a1 : Option Addr) (a4 : Option Addr) (l5 : Nat) (c6 : Nat) (c3 : Nat) (h7 : Lg.AH) : Res := O.code 26 (keepT k_kit_SameInts) (codeAt Try.prog k_kit_SameInts [1, 1]) ((T.nil.set 1 (some (.slice a4 l5 c6))).set 0 (some (.slice a1 l2 c3))) h7 (endK Try.prog none (resOf Try.prog k_kit_SameInts))
theorem kit_SameInts_j1_le {h9 : Lg.AH} : Le ((some ((.bool true), h9))) (kit_SameInts_j1 h9) := G_of (by kernel_rfl)
theorem kit_SameInts_j2_le {l2 : Nat} {a1 : Option Addr} {a4 : Option Addr} {l5 : Nat} {c6 : Nat} {c3 : Nat} {x8 : Int} {h9 : Lg.AH} : Le ((kit_SameInts_L1 l2 a1 a4 l5 c6 c3 (IntKind.wrap .i64 (x8 + 1)) h9)) (kit_SameInts_j2 l2 a1 a4 l5 c6 c3 x8 h9) := G_of (by kernel_rfl)
theorem kit_SameInts_j3_le {a1 : Option Addr} {x8 : Int} {l2 : Nat} {h9 : Lg.AH} {a4 : Option Addr} {l5 : Nat} {c6 : Nat} {c3 : Nat} : Le ((a1.bind fun a10 => (cond (inB x8 l2) ((h9.ldI .i64 a10.block (a10.off + (x8).toNat * 1)).bind fun x11 => (a4.bind fun a12 => (cond (inB x8 l5) ((h9.ldI .i64 a12.block (a12.off + (x8).toNat * 1)).bind fun x13 => (cond (!decide (x11 = x13)) (some ((.bool false), h9)) (kit_SameInts_j2 l2 a1 a4 l5 c6 c3 x8 h9))) none))) none))) (kit_SameInts_j3 a1 x8 l2 h9 a4 l5 c6 c3) := G_of (by kernel_rfl)
theorem kit_SameInts_L1_le {l2 : Nat} {a1 : Option Addr} {a4 : Option Addr} {l5 : Nat} {c6 : Nat} {c3 : Nat} {x8 : Int} {h9 : AH} : Le ((cond (decide (x8 < ((l2 : Nat) : Int))) (kit_SameInts_j3 a1 x8 l2 h9 a4 l5 c6 c3) (kit_SameInts_j1 h9))) (kit_SameInts_L1 l2 a1 a4 l5 c6 c3 x8 h9) := L_of (by kernel_rfl)
theorem kit_SameInts_j4_le {l2 : Nat} {a1 : Option Addr} {a4 : Option Addr} {l5 : Nat} {c6 : Nat} {c3 : Nat} {h7 : Lg.AH} : Le ((kit_SameInts_L1 l2 a1 a4 l5 c6 c3 0 h7)) (kit_SameInts_j4 l2 a1 a4 l5 c6 c3 h7) := G_of (by kernel_rfl)
noncomputable def F_kit_SameInts (a1 : Option Addr) (l2 : Nat) (c3 : Nat) (a4 : Option Addr) (l5 : Nat) (c6 : Nat) (h7 : AH) : Res := (cond (!decide (((l2 : Nat) : Int) = ((l5 : Nat) : Int))) (some ((.bool false), h7)) (kit_SameInts_j4 l2 a1 a4 l5 c6 c3 h7))
theorem kit_SameInts_le {a1 : Option Addr} {l2 : Nat} {c3 : Nat} {a4 : Option Addr} {l5 : Nat} {c6 : Nat} {h7 : AH} : Le (F_kit_SameInts a1 l2 c3 a4 l5 c6 h7) (C k_kit_SameInts [(.slice a1 l2 c3), (.slice a4 l5 c6)] h7) := C_of (by kernel_rfl) (by kernel_rfl)
end Go.Lg.Try
