/- What functions of the program come to, by the calculus: printed by a program of this repo (Nice.lean). Second part. -/
import Derived.Test.YtdnhhdplcminlaaGreatDoorAiSpec0
set_option maxHeartbeats 400000
set_option linter.unusedVariables false
set_option maxRecDepth 100000
namespace Go.Proofs.YtdnhhdplcminlaaGreatDoor.AI
open Go
theorem n178 : ∀ (s1 : List UInt8) (Q : AV → Prop),
  BodyP Tryz.prog cfg { ptr := false, sl := 0 } 178 [AV.str s1] [] (retE Q) =
    (((0 : Int) ≤ (0 : Int) ∧ (0 : Int) < (↑(List.length s1) : Int)) ∧
      ((0 : Int) ≤ (1 : Int) ∧ (1 : Int) < (↑(List.length s1) : Int)) ∧
        (0 : Int) ≤ (8 : Int) ∧
          ((0 : Int) ≤ (2 : Int) ∧ (2 : Int) < (↑(List.length s1) : Int)) ∧
            (0 : Int) ≤ (16 : Int) ∧
              ((0 : Int) ≤ (3 : Int) ∧ (3 : Int) < (↑(List.length s1) : Int)) ∧
                (0 : Int) ≤ (24 : Int) ∧
                  ((0 : Int) ≤ (4 : Int) ∧ (4 : Int) < (↑(List.length s1) : Int)) ∧
                    (0 : Int) ≤ (32 : Int) ∧
                      ((0 : Int) ≤ (5 : Int) ∧ (5 : Int) < (↑(List.length s1) : Int)) ∧
                        (0 : Int) ≤ (40 : Int) ∧
                          ((0 : Int) ≤ (6 : Int) ∧ (6 : Int) < (↑(List.length s1) : Int)) ∧
                            (0 : Int) ≤ (48 : Int) ∧
                              ((0 : Int) ≤ (7 : Int) ∧ (7 : Int) < (↑(List.length s1) : Int)) ∧
                                (0 : Int) ≤ (56 : Int) ∧
                                  Q
                                    (AV.int IntKind.u64
                                      (IntKind.wrap IntKind.u64
                                        (↑(BitVec.toNat
                                              (BitVec.ofInt (IntKind.bits IntKind.u64)
                                                  (IntKind.wrap IntKind.u64
                                                    (↑(BitVec.toNat
                                                          (BitVec.ofInt (IntKind.bits IntKind.u64)
                                                              (IntKind.wrap IntKind.u64
                                                                (↑(BitVec.toNat
                                                                      (BitVec.ofInt (IntKind.bits IntKind.u64)
                                                                          (IntKind.wrap IntKind.u64
                                                                            (↑(BitVec.toNat
                                                                                  (BitVec.ofInt (IntKind.bits IntKind.u64)
                                                                                      (IntKind.wrap IntKind.u64
                                                                                        (↑(BitVec.toNat
                                                                                              (BitVec.ofInt (IntKind.bits IntKind.u64)
                                                                                                  (IntKind.wrap IntKind.u64
                                                                                                    (↑(BitVec.toNat
                                                                                                          (BitVec.ofInt (IntKind.bits IntKind.u64)
                                                                                                              (IntKind.wrap IntKind.u64
                                                                                                                (↑(BitVec.toNat
                                                                                                                      (BitVec.ofInt (IntKind.bits IntKind.u64)
                                                                                                                          (IntKind.wrap IntKind.u64 (↑(UInt8.toNat (List.getD s1 (Int.toNat (0 : Int)) 0)) : Int)) |||
                                                                                                                        BitVec.ofInt (IntKind.bits IntKind.u64)
                                                                                                                          (IntKind.wrap IntKind.u64
                                                                                                                            (IntKind.wrap IntKind.u64 (↑(UInt8.toNat (List.getD s1 (Int.toNat (1 : Int)) 0)) : Int) *
                                                                                                                              (2 : Int) ^ min (Int.toNat (8 : Int)) (IntKind.bits IntKind.u64))))) :
                                                                                                                  Int)) |||
                                                                                                            BitVec.ofInt (IntKind.bits IntKind.u64)
                                                                                                              (IntKind.wrap IntKind.u64
                                                                                                                (IntKind.wrap IntKind.u64 (↑(UInt8.toNat (List.getD s1 (Int.toNat (2 : Int)) 0)) : Int) *
                                                                                                                  (2 : Int) ^ min (Int.toNat (16 : Int)) (IntKind.bits IntKind.u64))))) :
                                                                                                      Int)) |||
                                                                                                BitVec.ofInt (IntKind.bits IntKind.u64)
                                                                                                  (IntKind.wrap IntKind.u64
                                                                                                    (IntKind.wrap IntKind.u64 (↑(UInt8.toNat (List.getD s1 (Int.toNat (3 : Int)) 0)) : Int) *
                                                                                                      (2 : Int) ^ min (Int.toNat (24 : Int)) (IntKind.bits IntKind.u64))))) :
                                                                                          Int)) |||
                                                                                    BitVec.ofInt (IntKind.bits IntKind.u64)
                                                                                      (IntKind.wrap IntKind.u64
                                                                                        (IntKind.wrap IntKind.u64 (↑(UInt8.toNat (List.getD s1 (Int.toNat (4 : Int)) 0)) : Int) *
                                                                                          (2 : Int) ^ min (Int.toNat (32 : Int)) (IntKind.bits IntKind.u64))))) :
                                                                              Int)) |||
                                                                        BitVec.ofInt (IntKind.bits IntKind.u64)
                                                                          (IntKind.wrap IntKind.u64
                                                                            (IntKind.wrap IntKind.u64 (↑(UInt8.toNat (List.getD s1 (Int.toNat (5 : Int)) 0)) : Int) *
                                                                              (2 : Int) ^ min (Int.toNat (40 : Int)) (IntKind.bits IntKind.u64))))) :
                                                                  Int)) |||
                                                            BitVec.ofInt (IntKind.bits IntKind.u64)
                                                              (IntKind.wrap IntKind.u64
                                                                (IntKind.wrap IntKind.u64 (↑(UInt8.toNat (List.getD s1 (Int.toNat (6 : Int)) 0)) : Int) *
                                                                  (2 : Int) ^ min (Int.toNat (48 : Int)) (IntKind.bits IntKind.u64))))) :
                                                      Int)) |||
                                                BitVec.ofInt (IntKind.bits IntKind.u64)
                                                  (IntKind.wrap IntKind.u64
                                                    (IntKind.wrap IntKind.u64 (↑(UInt8.toNat (List.getD s1 (Int.toNat (7 : Int)) 0)) : Int) * (2 : Int) ^ min (Int.toNat (56 : Int)) (IntKind.bits IntKind.u64))))) :
                                          Int)))) := by intros; kernel_rfl

end Go.Proofs.YtdnhhdplcminlaaGreatDoor.AI
