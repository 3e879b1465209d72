/- What functions of the program come to, by the calculus: printed by a program of this repo (Nice.lean). Validity, building. -/
import Derived.Test.YtdnhhdplcminlaaGreatDoorAiSpec0
set_option maxHeartbeats 400000
set_option linter.unusedVariables false
set_option maxRecDepth 100000
namespace Go.Proofs.YtdnhhdplcminlaaGreatDoor.AI
open Go
theorem n82 : ∀ (i1 : Int) (n2 : Nat) (c3 : List AV) (s4 : List UInt8) (n5 : Nat) (c6 : List AV) (i7 i8 : Int) (s9 : List UInt8) (n10 : Nat) (c11 : List AV) (n12 : Nat) (c13 : List AV) (i14 : Int) (n15 : Nat) (c16 : List AV) (Q : AV → Prop),
  BodyP Tryz.prog cfg { ptr := false, sl := 0 } 82
      [AV.agg
          [AV.int IntKind.i64 i1, AV.sl false n2 c3, AV.str s4, AV.sl false n5 c6, AV.int IntKind.i64 i7, AV.int IntKind.i64 i8, AV.str s9, AV.sl false n10 c11, AV.sl false n12 c13, AV.int IntKind.i64 i14, AV.sl false n15 c16]]
      [] (retE Q) =
    (((0 : Int) ≤ i1 ∧ i1 < (38 : Int)) ∧
      ∃ (i17 : Int),
        seg (gT cfg 0) (0 + Int.toNat i1 * 2 + 1) 1 = some [AV.int IntKind.i64 i17] ∧
          bif i17 == (1 : Int) then Q (AV.bool ((↑n15 : Int) == (0 : Int)))
          else
            bif i17 == (2 : Int) then Q (AV.bool ((↑n15 : Int) == (1 : Int)))
            else
              bif i17 == (3 : Int) then Q (AV.bool ((↑n15 : Int) == (2 : Int)))
              else
                bif i17 == (5 : Int) then Q (AV.bool ((↑n15 : Int) == (2 : Int)))
                else
                  bif i17 == (4 : Int) then Q (AV.bool ((↑n15 : Int) == (3 : Int)))
                  else bif i17 == (7 : Int) then Q (AV.bool (bif decide ((↑n15 : Int) > (0 : Int)) then (↑n15 : Int) == (↑n5 : Int) else false)) else Q (AV.bool true)) := by intros; kernel_rfl

theorem n52 : ∀ (i1 : Int) (n2 : Nat) (c3 : List AV) (s4 : List UInt8) (n5 : Nat) (c6 : List AV) (i7 i8 : Int) (s9 : List UInt8) (n10 : Nat) (c11 : List AV) (n12 : Nat) (c13 : List AV) (i14 : Int) (n15 : Nat) (c16 : List AV) (Q : AV → Prop),
  BodyP Tryz.prog cfg { ptr := false, sl := 0 } 52
      [AV.agg
          [AV.int IntKind.i64 i1, AV.sl false n2 c3, AV.str s4, AV.sl false n5 c6, AV.int IntKind.i64 i7, AV.int IntKind.i64 i8, AV.str s9, AV.sl false n10 c11, AV.sl false n12 c13, AV.int IntKind.i64 i14, AV.sl false n15 c16]]
      [] (retE Q) =
    ∃ (b17 : Bool),
      (((!bif decide (i1 < (1 : Int)) then true else decide (i1 > (37 : Int))) && true) = true →
          PC Tryz.prog cfg 82
            [AV.agg
                [AV.int IntKind.i64 i1, AV.sl false n2 c3, AV.str s4, AV.sl false n5 c6, AV.int IntKind.i64 i7, AV.int IntKind.i64 i8, AV.str s9, AV.sl false n10 c11, AV.sl false n12 c13, AV.int IntKind.i64 i14,
                  AV.sl false n15 c16]]
            (AV.bool b17)) ∧
        bif bif bif decide (i1 < (1 : Int)) then true else decide (i1 > (37 : Int)) then true else !b17 then Q (AV.int IntKind.i64 11)
        else
          ∃ (b18 : Bool),
            ((i1 == (2 : Int) && true) = true → PC Tryz.prog cfg 83 [AV.sl false n2 c3] (AV.bool b18)) ∧
              ∃ (b19 : Bool),
                (((bif i1 == (3 : Int) then decide ((↑n2 : Int) > (0 : Int)) else false) && ((!bif i1 == (2 : Int) then !b18 else false) && true)) = true → PC Tryz.prog cfg 83 [AV.sl false n2 c3] (AV.bool b19)) ∧
                  bif bif bif i1 == (2 : Int) then !b18 else false then true else bif bif i1 == (3 : Int) then decide ((↑n2 : Int) > (0 : Int)) else false then !b19 else false then Q (AV.int IntKind.i64 10)
                  else
                    ((!i1 == (3 : Int) && true) = true → (0 : Int) ≤ i1 ∧ i1 < (38 : Int)) ∧
                      ∃ (i20 : Int),
                        ((!i1 == (3 : Int) && true) = true → seg (gT cfg 0) (0 + Int.toNat i1 * 2 + 1) 1 = some [AV.int IntKind.i64 i20]) ∧
                          ∃ (b21 : Bool),
                            (((bif i1 == (3 : Int) then true else i20 == (5 : Int)) && true) = true → PC Tryz.prog cfg 84 [AV.str s4] (AV.bool b21)) ∧
                              bif bif bif i1 == (3 : Int) then true else i20 == (5 : Int) then !b21 else false then Q (AV.int IntKind.i64 9)
                              else
                                bif i1 == (34 : Int) then
                                  LabelP Tryz.prog cfg { ptr := false, sl := 0 } 52 11
                                    [AV.box
                                        [AV.int IntKind.i64 i1, AV.sl false n2 c3, AV.str s4, AV.sl false n5 c6, AV.int IntKind.i64 i7, AV.int IntKind.i64 i8, AV.str s9, AV.sl false n10 c11, AV.sl false n12 c13,
                                          AV.int IntKind.i64 i14, AV.sl false n15 c16],
                                      AV.bool (i1 == (3 : Int)), AV.bool (bif i1 == (3 : Int) then true else i20 == (5 : Int)), AV.sl false n5 c6, AV.int IntKind.i64 (↑n5 : Int), AV.int IntKind.i64 0]
                                    [] (retE Q)
                                else
                                  ∃ (b22 : Bool),
                                    ((i1 == (1 : Int) && true) = true → PC Tryz.prog cfg 60 [AV.agg [AV.int IntKind.i64 i7, AV.int IntKind.i64 i8, AV.str s9, AV.sl false n10 c11, AV.sl false n12 c13]] (AV.bool b22)) ∧
                                      bif bif i1 == (1 : Int) then !b22 else false then Q (AV.int IntKind.i64 8)
                                      else
                                        bif
                                            bif
                                                bif
                                                    bif bif i14 != (0 : Int) then true else bif bif i1 != (2 : Int) then !i1 == (3 : Int) else false then decide ((↑n2 : Int) > (0 : Int)) else false then true
                                                    else bif !bif i1 == (3 : Int) then true else i20 == (5 : Int) then !s4 == [] else false then
                                                  true
                                                else bif i1 != (34 : Int) then decide ((↑n5 : Int) > (0 : Int)) else false then
                                              true
                                            else
                                              bif i1 != (1 : Int) then
                                                bif bif bif bif i7 != (0 : Int) then true else i8 != (0 : Int) then true else !s9 == [] then true else decide ((↑n10 : Int) > (0 : Int)) then true
                                                else decide ((↑n12 : Int) > (0 : Int))
                                              else false then
                                          Q (AV.int IntKind.i64 4)
                                        else Q (AV.int IntKind.i64 0) := by intros; kernel_rfl

theorem l52_11 : ∀ (i1 : Int) (n2 : Nat) (c3 : List AV) (s4 : List UInt8) (n5 : Nat) (c6 : List AV) (i7 i8 : Int) (s9 : List UInt8) (n10 : Nat) (c11 : List AV) (n12 : Nat) (c13 : List AV) (i14 : Int) (n15 : Nat) (c16 : List AV) (b17 b18 : Bool)
  (n19 : Nat) (c20 : List AV) (i21 i22 : Int) (h : Heap) (Q : AV → Prop),
  LabelB Tryz.prog cfg { ptr := false, sl := 0 } 52 11
      [AV.box
          [AV.int IntKind.i64 i1, AV.sl false n2 c3, AV.str s4, AV.sl false n5 c6, AV.int IntKind.i64 i7, AV.int IntKind.i64 i8, AV.str s9, AV.sl false n10 c11, AV.sl false n12 c13, AV.int IntKind.i64 i14, AV.sl false n15 c16],
        AV.bool b17, AV.bool b18, AV.sl false n19 c20, AV.int IntKind.i64 i21, AV.int IntKind.i64 i22]
      h (retE Q) =
    bif decide (i22 < i21) then
      ((0 : Int) ≤ i22 ∧ i22 < (↑n19 : Int)) ∧
        ∃ (s23 : List UInt8),
          seg c20 (Int.toNat i22 * 1) 1 = some [AV.str s23] ∧
            ∃ (b24 : Bool),
              PC Tryz.prog cfg 84 [AV.str s23] (AV.bool b24) ∧
                ((!!b24 && true) = true → ((0 : Int) ≤ i22 ∧ i22 ≤ (↑n5 : Int)) ∧ True) ∧
                  ∃ (b25 : Bool),
                    ((!!b24 && true) = true → PC Tryz.prog cfg 85 [AV.sl false (Int.toNat i22 - 0) (List.take ((Int.toNat i22 - 0) * 1) c6), AV.str s23] (AV.bool b25)) ∧
                      bif bif !b24 then true else b25 then Q (AV.int IntKind.i64 9)
                      else
                        LabelP Tryz.prog cfg { ptr := false, sl := 0 } 52 11
                          [AV.box
                              [AV.int IntKind.i64 i1, AV.sl false n2 c3, AV.str s4, AV.sl false n5 c6, AV.int IntKind.i64 i7, AV.int IntKind.i64 i8, AV.str s9, AV.sl false n10 c11, AV.sl false n12 c13, AV.int IntKind.i64 i14,
                                AV.sl false n15 c16],
                            AV.bool b17, AV.bool b18, AV.sl false n19 c20, AV.int IntKind.i64 i21, AV.int IntKind.i64 (IntKind.wrap IntKind.i64 (i22 + (1 : Int)))]
                          h (retE Q)
    else
      ∃ (b26 : Bool),
        ((i1 == (1 : Int) && true) = true → PC Tryz.prog cfg 60 [AV.agg [AV.int IntKind.i64 i7, AV.int IntKind.i64 i8, AV.str s9, AV.sl false n10 c11, AV.sl false n12 c13]] (AV.bool b26)) ∧
          bif bif i1 == (1 : Int) then !b26 else false then Q (AV.int IntKind.i64 8)
          else
            bif
                bif
                    bif bif bif i14 != (0 : Int) then true else bif bif i1 != (2 : Int) then !b17 else false then decide ((↑n2 : Int) > (0 : Int)) else false then true else bif !b18 then !s4 == [] else false then true
                    else bif i1 != (34 : Int) then decide ((↑n5 : Int) > (0 : Int)) else false then
                  true
                else
                  bif i1 != (1 : Int) then bif bif bif bif i7 != (0 : Int) then true else i8 != (0 : Int) then true else !s9 == [] then true else decide ((↑n10 : Int) > (0 : Int)) then true else decide ((↑n12 : Int) > (0 : Int))
                  else false then
              Q (AV.int IntKind.i64 4)
            else Q (AV.int IntKind.i64 0) := by intros; kernel_rfl

theorem n28 : ∀ (i1 : Int) (n2 : Nat) (c3 : List AV) (s4 : List UInt8) (n5 : Nat) (c6 : List AV) (i7 i8 : Int) (s9 : List UInt8) (n10 : Nat) (c11 : List AV) (n12 : Nat) (c13 : List AV) (i14 : Int) (n15 : Nat) (c16 : List AV) (i17 : Int)
  (id18 o19 : Nat) (h : Heap) (Q : AV → Heap → Prop),
  BodyP Tryz.prog cfg { ptr := true, sl := 0 } 28
      [AV.agg
          [AV.int IntKind.i64 i1, AV.sl false n2 c3, AV.str s4, AV.sl false n5 c6, AV.int IntKind.i64 i7, AV.int IntKind.i64 i8, AV.str s9, AV.sl false n10 c11, AV.sl false n12 c13, AV.int IntKind.i64 i14, AV.sl false n15 c16],
        AV.int IntKind.i64 i17, AV.ptr id18 o19]
      h Q =
    ∃ (i20 : Int),
      readP Env.empty h (AV.ptr id18 o19) 1 = some [AV.int IntKind.i64 i20] ∧
        ∃ (h21 : Heap),
          aStore Tryz.prog Env.empty h 3 (AV.ptr id18 o19) (AV.int IntKind.i64 (IntKind.wrap IntKind.i64 (i20 + (1 : Int)))) = some (Eff.heap h21 AV.undef) ∧
            ∃ (i22 : Int),
              ((!decide (i17 > (16 : Int)) && true) = true → readP Env.empty h21 (AV.ptr id18 o19) 1 = some [AV.int IntKind.i64 i22]) ∧
                bif bif decide (i17 > (16 : Int)) then true else decide (i22 > (256 : Int)) then Q (AV.int IntKind.i64 2) h21
                else
                  ∃ (i23 : Int),
                    PC Tryz.prog cfg 52
                        [AV.agg
                            [AV.int IntKind.i64 i1, AV.sl false n2 c3, AV.str s4, AV.sl false n5 c6, AV.int IntKind.i64 i7, AV.int IntKind.i64 i8, AV.str s9, AV.sl false n10 c11, AV.sl false n12 c13, AV.int IntKind.i64 i14,
                              AV.sl false n15 c16]]
                        (AV.int IntKind.i64 i23) ∧
                      bif i23 != (0 : Int) then Q (AV.int IntKind.i64 i23) h21
                      else
                        LabelP Tryz.prog cfg { ptr := true, sl := 0 } 28 8 [AV.int IntKind.i64 i17, AV.ptr id18 o19, AV.sl false n15 c16, AV.int IntKind.i64 (↑n15 : Int), AV.int IntKind.i64 0] h21 Q := by intros; kernel_rfl

theorem l28_8 : ∀ (i1 : Int) (id2 o3 n4 : Nat) (c5 : List AV) (i6 i7 : Int) (h : Heap) (Q : AV → Heap → Prop),
  LabelB Tryz.prog cfg { ptr := true, sl := 0 } 28 8 [AV.int IntKind.i64 i1, AV.ptr id2 o3, AV.sl false n4 c5, AV.int IntKind.i64 i6, AV.int IntKind.i64 i7] h Q =
    bif decide (i7 < i6) then
      ((0 : Int) ≤ i7 ∧ i7 < (↑n4 : Int)) ∧
        ∃ (i8 : Int),
          ∃ (n9 : Nat),
            ∃ (c10 : List AV),
              ∃ (s11 : List UInt8),
                ∃ (n12 : Nat),
                  ∃ (c13 : List AV),
                    ∃ (i14 : Int),
                      ∃ (i15 : Int),
                        ∃ (s16 : List UInt8),
                          ∃ (n17 : Nat),
                            ∃ (c18 : List AV),
                              ∃ (n19 : Nat),
                                ∃ (c20 : List AV),
                                  ∃ (i21 : Int),
                                    ∃ (n22 : Nat),
                                      ∃ (c23 : List AV),
                                        seg c5 (Int.toNat i7 * 11) 11 =
                                            some
                                              [AV.int IntKind.i64 i8, AV.sl false n9 c10, AV.str s11, AV.sl false n12 c13, AV.int IntKind.i64 i14, AV.int IntKind.i64 i15, AV.str s16, AV.sl false n17 c18, AV.sl false n19 c20,
                                                AV.int IntKind.i64 i21, AV.sl false n22 c23] ∧
                                          ∃ (i24 : Int),
                                            ∃ (h25 : Heap),
                                              Call Tryz.prog cfg 28
                                                  [AV.agg
                                                      [AV.int IntKind.i64 i8, AV.sl false n9 c10, AV.str s11, AV.sl false n12 c13, AV.int IntKind.i64 i14, AV.int IntKind.i64 i15, AV.str s16, AV.sl false n17 c18,
                                                        AV.sl false n19 c20, AV.int IntKind.i64 i21, AV.sl false n22 c23],
                                                    AV.int IntKind.i64 (IntKind.wrap IntKind.i64 (i1 + (1 : Int))), AV.ptr id2 o3]
                                                  h (AV.int IntKind.i64 i24) h25 ∧
                                                bif i24 != (0 : Int) then Q (AV.int IntKind.i64 i24) h25
                                                else
                                                  LabelP Tryz.prog cfg { ptr := true, sl := 0 } 28 8
                                                    [AV.int IntKind.i64 i1, AV.ptr id2 o3, AV.sl false n4 c5, AV.int IntKind.i64 i6, AV.int IntKind.i64 (IntKind.wrap IntKind.i64 (i7 + (1 : Int)))] h25 Q
    else Q (AV.int IntKind.i64 0) h := by intros; kernel_rfl

theorem n11 : ∀ (i1 : Int) (n2 : Nat) (c3 : List AV) (s4 : List UInt8) (n5 : Nat) (c6 : List AV) (i7 i8 : Int) (s9 : List UInt8) (n10 : Nat) (c11 : List AV) (n12 : Nat) (c13 : List AV) (i14 : Int) (n15 : Nat) (c16 : List AV) (Q : AV → Prop),
  BodyP Tryz.prog cfg { ptr := false, sl := 0 } 11
      [AV.agg
          [AV.int IntKind.i64 i1, AV.sl false n2 c3, AV.str s4, AV.sl false n5 c6, AV.int IntKind.i64 i7, AV.int IntKind.i64 i8, AV.str s9, AV.sl false n10 c11, AV.sl false n12 c13, AV.int IntKind.i64 i14, AV.sl false n15 c16]]
      [] (retE Q) =
    ∃ (i17 : Int),
      ∃ (h18 : Heap),
        Call Tryz.prog cfg 28
            [AV.agg
                [AV.int IntKind.i64 i1, AV.sl false n2 c3, AV.str s4, AV.sl false n5 c6, AV.int IntKind.i64 i7, AV.int IntKind.i64 i8, AV.str s9, AV.sl false n10 c11, AV.sl false n12 c13, AV.int IntKind.i64 i14,
                  AV.sl false n15 c16],
              AV.int IntKind.i64 1, AV.ptr 0 0]
            [some (AObj.arr [AV.int IntKind.i64 0])] (AV.int IntKind.i64 i17) h18 ∧
          Q (AV.int IntKind.i64 i17) := by intros; kernel_rfl

theorem n9 : ∀ (i1 : Int) (n2 : Nat) (c3 : List AV) (s4 : List UInt8) (n5 : Nat) (c6 : List AV) (i7 i8 : Int) (s9 : List UInt8) (n10 : Nat) (c11 : List AV) (n12 : Nat) (c13 : List AV) (i14 : Int) (n15 : Nat) (c16 : List AV) (i17 : Int)
  (Q : AV → Prop),
  BodyP Tryz.prog cfg { ptr := false, sl := 0 } 9
      [AV.agg
          [AV.int IntKind.i64 i1, AV.sl false n2 c3, AV.str s4, AV.sl false n5 c6, AV.int IntKind.i64 i7, AV.int IntKind.i64 i8, AV.str s9, AV.sl false n10 c11, AV.sl false n12 c13, AV.int IntKind.i64 i14, AV.sl false n15 c16],
        AV.int IntKind.i64 i17]
      [] (retE Q) =
    bif bif i1 == (32 : Int) then true else i1 == (33 : Int) then
      LabelP Tryz.prog cfg { ptr := false, sl := 0 } 9 5
        [AV.int IntKind.i64 i17,
          AV.box
            [AV.int IntKind.i64 i1, AV.sl false n2 c3, AV.str s4, AV.sl false n5 c6, AV.int IntKind.i64 i7, AV.int IntKind.i64 i8, AV.str s9, AV.sl false n10 c11, AV.sl false n12 c13, AV.int IntKind.i64 i14, AV.sl false n15 c16],
          AV.int IntKind.i64 1, AV.int IntKind.i64 1, AV.int IntKind.i64 0]
        [] (retE Q)
    else
      LabelP Tryz.prog cfg { ptr := false, sl := 0 } 9 5
        [AV.int IntKind.i64 i17,
          AV.box
            [AV.int IntKind.i64 i1, AV.sl false n2 c3, AV.str s4, AV.sl false n5 c6, AV.int IntKind.i64 i7, AV.int IntKind.i64 i8, AV.str s9, AV.sl false n10 c11, AV.sl false n12 c13, AV.int IntKind.i64 i14, AV.sl false n15 c16],
          AV.int IntKind.i64 1, AV.int IntKind.i64 0, AV.int IntKind.i64 0]
        [] (retE Q) := by intros; kernel_rfl

theorem l9_5 : ∀ (i1 i2 : Int) (n3 : Nat) (c4 : List AV) (s5 : List UInt8) (n6 : Nat) (c7 : List AV) (i8 i9 : Int) (s10 : List UInt8) (n11 : Nat) (c12 : List AV) (n13 : Nat) (c14 : List AV) (i15 : Int) (n16 : Nat) (c17 : List AV)
  (i18 i19 i20 : Int) (h : Heap) (Q : AV → Prop),
  LabelB Tryz.prog cfg { ptr := false, sl := 0 } 9 5
      [AV.int IntKind.i64 i1,
        AV.box
          [AV.int IntKind.i64 i2, AV.sl false n3 c4, AV.str s5, AV.sl false n6 c7, AV.int IntKind.i64 i8, AV.int IntKind.i64 i9, AV.str s10, AV.sl false n11 c12, AV.sl false n13 c14, AV.int IntKind.i64 i15, AV.sl false n16 c17],
        AV.int IntKind.i64 i18, AV.int IntKind.i64 i19, AV.int IntKind.i64 i20]
      h (retE Q) =
    bif bif decide (i20 < (↑n16 : Int)) then decide (i18 < i1) else false then
      ((0 : Int) ≤ i20 ∧ i20 < (↑n16 : Int)) ∧
        ∃ (i21 : Int),
          ∃ (n22 : Nat),
            ∃ (c23 : List AV),
              ∃ (s24 : List UInt8),
                ∃ (n25 : Nat),
                  ∃ (c26 : List AV),
                    ∃ (i27 : Int),
                      ∃ (i28 : Int),
                        ∃ (s29 : List UInt8),
                          ∃ (n30 : Nat),
                            ∃ (c31 : List AV),
                              ∃ (n32 : Nat),
                                ∃ (c33 : List AV),
                                  ∃ (i34 : Int),
                                    ∃ (n35 : Nat),
                                      ∃ (c36 : List AV),
                                        seg c17 (Int.toNat i20 * 11) 11 =
                                            some
                                              [AV.int IntKind.i64 i21, AV.sl false n22 c23, AV.str s24, AV.sl false n25 c26, AV.int IntKind.i64 i27, AV.int IntKind.i64 i28, AV.str s29, AV.sl false n30 c31, AV.sl false n32 c33,
                                                AV.int IntKind.i64 i34, AV.sl false n35 c36] ∧
                                          ∃ (i37 : Int),
                                            ∃ (i38 : Int),
                                              PC Tryz.prog cfg 9
                                                  [AV.agg
                                                      [AV.int IntKind.i64 i21, AV.sl false n22 c23, AV.str s24, AV.sl false n25 c26, AV.int IntKind.i64 i27, AV.int IntKind.i64 i28, AV.str s29, AV.sl false n30 c31,
                                                        AV.sl false n32 c33, AV.int IntKind.i64 i34, AV.sl false n35 c36],
                                                    AV.int IntKind.i64 (IntKind.wrap IntKind.i64 (i1 - i18))]
                                                  (AV.tup [AV.int IntKind.i64 i37, AV.int IntKind.i64 i38]) ∧
                                                LabelP Tryz.prog cfg { ptr := false, sl := 0 } 9 5
                                                  [AV.int IntKind.i64 i1,
                                                    AV.box
                                                      [AV.int IntKind.i64 i2, AV.sl false n3 c4, AV.str s5, AV.sl false n6 c7, AV.int IntKind.i64 i8, AV.int IntKind.i64 i9, AV.str s10, AV.sl false n11 c12, AV.sl false n13 c14,
                                                        AV.int IntKind.i64 i15, AV.sl false n16 c17],
                                                    AV.int IntKind.i64 (IntKind.wrap IntKind.i64 (i18 + i37)), AV.int IntKind.i64 (IntKind.wrap IntKind.i64 (i19 + i38)),
                                                    AV.int IntKind.i64 (IntKind.wrap IntKind.i64 (i20 + (1 : Int)))]
                                                  h (retE Q)
    else ∃ (v39 : AV), some (AV.tup [AV.int IntKind.i64 i18, AV.int IntKind.i64 i19]) = some v39 ∧ Q v39 := by intros; kernel_rfl

theorem n84 : ∀ (s1 : List UInt8) (Q : AV → Prop),
  BodyP Tryz.prog cfg { ptr := false, sl := 0 } 84 [AV.str s1] [] (retE Q) = ∃ (b2 : Bool), PC Tryz.prog cfg 83 [AV.sl true 1 [AV.str s1]] (AV.bool b2) ∧ Q (AV.bool b2) := by intros; kernel_rfl

theorem n83 : ∀ (n1 : Nat) (c2 : List AV) (Q : AV → Prop),
  BodyP Tryz.prog cfg { ptr := false, sl := 0 } 83 [AV.sl false n1 c2] [] (retE Q) =
    bif bif decide ((↑n1 : Int) < (1 : Int)) then true else decide ((↑n1 : Int) > (16 : Int)) then Q (AV.bool false)
    else LabelP Tryz.prog cfg { ptr := false, sl := 0 } 83 4 [AV.sl false n1 c2, AV.int IntKind.i64 (↑n1 : Int), AV.int IntKind.i64 0] [] (retE Q) := by intros; kernel_rfl

theorem l83_4 : ∀ (n1 : Nat) (c2 : List AV) (i3 i4 : Int) (h : Heap) (Q : AV → Prop),
  LabelB Tryz.prog cfg { ptr := false, sl := 0 } 83 4 [AV.sl false n1 c2, AV.int IntKind.i64 i3, AV.int IntKind.i64 i4] h (retE Q) =
    bif decide (i4 < i3) then
      ((0 : Int) ≤ i4 ∧ i4 < (↑n1 : Int)) ∧
        ∃ (s5 : List UInt8),
          seg c2 (Int.toNat i4 * 1) 1 = some [AV.str s5] ∧
            ∃ (b6 : Bool),
              PC Tryz.prog cfg 129 [AV.str s5] (AV.bool b6) ∧
                bif !b6 then Q (AV.bool false)
                else LabelP Tryz.prog cfg { ptr := false, sl := 0 } 83 4 [AV.sl false n1 c2, AV.int IntKind.i64 i3, AV.int IntKind.i64 (IntKind.wrap IntKind.i64 (i4 + (1 : Int)))] h (retE Q)
    else Q (AV.bool true) := by intros; kernel_rfl

theorem n129 : ∀ (s1 : List UInt8) (Q : AV → Prop),
  BodyP Tryz.prog cfg { ptr := false, sl := 0 } 129 [AV.str s1] [] (retE Q) =
    ((((!bif s1 == [] then true else decide ((↑(List.length s1) : Int) > (32 : Int))) && true) = true → (0 : Int) ≤ (0 : Int) ∧ (0 : Int) < (↑(List.length s1) : Int)) ∧
      bif bif bif s1 == [] then true else decide ((↑(List.length s1) : Int) > (32 : Int)) then true else (↑(UInt8.toNat (List.getD s1 0 0)) : Int) == (36 : Int) then Q (AV.bool false)
      else LabelP Tryz.prog cfg { ptr := false, sl := 0 } 129 4 [AV.str s1, AV.int IntKind.i64 (↑(List.length s1) : Int), AV.int IntKind.i64 0] [] (retE Q)) := by intros; kernel_rfl

theorem l129_4 : ∀ (s1 : List UInt8) (i2 i3 : Int) (h : Heap) (Q : AV → Prop),
  LabelB Tryz.prog cfg { ptr := false, sl := 0 } 129 4 [AV.str s1, AV.int IntKind.i64 i2, AV.int IntKind.i64 i3] h (retE Q) =
    bif decide (i3 < i2) then
      ((0 : Int) ≤ i3 ∧ i3 < (↑(List.length s1) : Int)) ∧
        ((!decide ((↑(UInt8.toNat (List.getD s1 (Int.toNat i3) 0)) : Int) < (33 : Int)) && true) = true → (0 : Int) ≤ i3 ∧ i3 < (↑(List.length s1) : Int)) ∧
          (((!bif decide ((↑(UInt8.toNat (List.getD s1 (Int.toNat i3) 0)) : Int) < (33 : Int)) then true else decide ((↑(UInt8.toNat (List.getD s1 (Int.toNat i3) 0)) : Int) > (126 : Int))) && true) = true →
              (0 : Int) ≤ i3 ∧ i3 < (↑(List.length s1) : Int)) ∧
            bif
                bif bif decide ((↑(UInt8.toNat (List.getD s1 (Int.toNat i3) 0)) : Int) < (33 : Int)) then true else decide ((↑(UInt8.toNat (List.getD s1 (Int.toNat i3) 0)) : Int) > (126 : Int)) then true
                else (↑(UInt8.toNat (List.getD s1 (Int.toNat i3) 0)) : Int) == (46 : Int) then
              Q (AV.bool false)
            else LabelP Tryz.prog cfg { ptr := false, sl := 0 } 129 4 [AV.str s1, AV.int IntKind.i64 i2, AV.int IntKind.i64 (IntKind.wrap IntKind.i64 (i3 + (1 : Int)))] h (retE Q)
    else Q (AV.bool true) := by intros; kernel_rfl

theorem n85 : ∀ (n1 : Nat) (c2 : List AV) (s3 : List UInt8) (Q : AV → Prop),
  BodyP Tryz.prog cfg { ptr := false, sl := 0 } 85 [AV.sl false n1 c2, AV.str s3] [] (retE Q) =
    ∃ (i4 : Int), PC Tryz.prog cfg 130 [AV.sl false n1 c2, AV.str s3] (AV.int IntKind.i64 i4) ∧ Q (AV.bool (decide (i4 ≥ (0 : Int)))) := by intros; kernel_rfl

theorem n130 : ∀ (n1 : Nat) (c2 : List AV) (s3 : List UInt8) (Q : AV → Prop),
  BodyP Tryz.prog cfg { ptr := false, sl := 0 } 130 [AV.sl false n1 c2, AV.str s3] [] (retE Q) =
    LabelP Tryz.prog cfg { ptr := false, sl := 0 } 130 2 [AV.sl false n1 c2, AV.str s3, AV.int IntKind.i64 (↑n1 : Int), AV.int IntKind.i64 0] [] (retE Q) := by intros; kernel_rfl

theorem l130_2 : ∀ (n1 : Nat) (c2 : List AV) (s3 : List UInt8) (i4 i5 : Int) (h : Heap) (Q : AV → Prop),
  LabelB Tryz.prog cfg { ptr := false, sl := 0 } 130 2 [AV.sl false n1 c2, AV.str s3, AV.int IntKind.i64 i4, AV.int IntKind.i64 i5] h (retE Q) =
    bif decide (i5 < i4) then
      ((0 : Int) ≤ i5 ∧ i5 < (↑n1 : Int)) ∧
        ∃ (s6 : List UInt8),
          seg c2 (Int.toNat i5 * 1) 1 = some [AV.str s6] ∧
            bif s3 == s6 then Q (AV.int IntKind.i64 i5)
            else LabelP Tryz.prog cfg { ptr := false, sl := 0 } 130 2 [AV.sl false n1 c2, AV.str s3, AV.int IntKind.i64 i4, AV.int IntKind.i64 (IntKind.wrap IntKind.i64 (i5 + (1 : Int)))] h (retE Q)
    else Q (AV.int IntKind.i64 (-1)) := by intros; kernel_rfl

theorem n60 : ∀ (i1 i2 : Int) (s3 : List UInt8) (n4 : Nat) (c5 : List AV) (n6 : Nat) (c7 : List AV) (Q : AV → Prop),
  BodyP Tryz.prog cfg { ptr := false, sl := 0 } 60 [AV.agg [AV.int IntKind.i64 i1, AV.int IntKind.i64 i2, AV.str s3, AV.sl false n4 c5, AV.sl false n6 c7]] [] (retE Q) =
    ∃ (i8 : Int),
      PC Tryz.prog cfg 104 [AV.agg [AV.int IntKind.i64 i1, AV.int IntKind.i64 i2, AV.str s3, AV.sl false n4 c5, AV.sl false n6 c7]] (AV.int IntKind.i64 i8) ∧
        ∃ (i9 : Int),
          ((decide (i8 ≤ (16 : Int)) && true) = true → PC Tryz.prog cfg 105 [AV.agg [AV.int IntKind.i64 i1, AV.int IntKind.i64 i2, AV.str s3, AV.sl false n4 c5, AV.sl false n6 c7]] (AV.int IntKind.i64 i9)) ∧
            ∃ (b10 : Bool),
              (((bif decide (i8 ≤ (16 : Int)) then decide (i9 ≤ (1024 : Int)) else false) && true) = true →
                  PC Tryz.prog cfg 106 [AV.agg [AV.int IntKind.i64 i1, AV.int IntKind.i64 i2, AV.str s3, AV.sl false n4 c5, AV.sl false n6 c7]] (AV.bool b10)) ∧
                Q (AV.bool (bif bif decide (i8 ≤ (16 : Int)) then decide (i9 ≤ (1024 : Int)) else false then b10 else false)) := by intros; kernel_rfl

theorem n104 : ∀ (i1 i2 : Int) (s3 : List UInt8) (n4 : Nat) (c5 : List AV) (n6 : Nat) (c7 : List AV) (Q : AV → Prop),
  BodyP Tryz.prog cfg { ptr := false, sl := 0 } 104 [AV.agg [AV.int IntKind.i64 i1, AV.int IntKind.i64 i2, AV.str s3, AV.sl false n4 c5, AV.sl false n6 c7]] [] (retE Q) =
    ∃ (i8 : Int),
      PC Tryz.prog cfg 138 [AV.agg [AV.int IntKind.i64 i1, AV.int IntKind.i64 i2, AV.str s3, AV.sl false n4 c5, AV.sl false n6 c7], AV.int IntKind.i64 17] (AV.int IntKind.i64 i8) ∧ Q (AV.int IntKind.i64 i8) := by intros; kernel_rfl

theorem n105 : ∀ (i1 i2 : Int) (s3 : List UInt8) (n4 : Nat) (c5 : List AV) (n6 : Nat) (c7 : List AV) (Q : AV → Prop),
  BodyP Tryz.prog cfg { ptr := false, sl := 0 } 105 [AV.agg [AV.int IntKind.i64 i1, AV.int IntKind.i64 i2, AV.str s3, AV.sl false n4 c5, AV.sl false n6 c7]] [] (retE Q) =
    ∃ (i8 : Int),
      PC Tryz.prog cfg 139 [AV.agg [AV.int IntKind.i64 i1, AV.int IntKind.i64 i2, AV.str s3, AV.sl false n4 c5, AV.sl false n6 c7], AV.int IntKind.i64 1025, AV.int IntKind.i64 1025]
          (AV.int IntKind.i64 i8) ∧
        Q (AV.int IntKind.i64 i8) := by intros; kernel_rfl

theorem n106 : ∀ (i1 i2 : Int) (s3 : List UInt8) (n4 : Nat) (c5 : List AV) (n6 : Nat) (c7 : List AV) (Q : AV → Prop),
  BodyP Tryz.prog cfg { ptr := false, sl := 0 } 106 [AV.agg [AV.int IntKind.i64 i1, AV.int IntKind.i64 i2, AV.str s3, AV.sl false n4 c5, AV.sl false n6 c7]] [] (retE Q) =
    bif i1 == (6 : Int) then
      bif bif bif i2 != (0 : Int) then true else !s3 == [] then true else decide ((↑n6 : Int) > (0 : Int)) then Q (AV.bool false)
      else
        ∃ (b8 : Bool),
          ∃ (h9 : Heap), Call Tryz.prog cfg 142 [AV.agg [AV.int IntKind.i64 i1, AV.int IntKind.i64 i2, AV.str s3, AV.sl false n4 c5, AV.sl false n6 c7], AV.fn (Fn.func 106) []] [] (AV.bool b8) h9 ∧ Q (AV.bool b8)
    else
      bif i1 == (5 : Int) then
        ∃ (b10 : Bool),
          (((!bif bif i2 != (0 : Int) then true else !s3 == [] then true else decide ((↑n4 : Int) > (0 : Int))) && true) = true → PC Tryz.prog cfg 140 [AV.sl false n6 c7] (AV.bool b10)) ∧
            bif bif bif bif i2 != (0 : Int) then true else !s3 == [] then true else decide ((↑n4 : Int) > (0 : Int)) then true else !b10 then Q (AV.bool false)
            else
              ∃ (b11 : Bool),
                ∃ (h12 : Heap),
                  Call Tryz.prog cfg 142 [AV.agg [AV.int IntKind.i64 i1, AV.int IntKind.i64 i2, AV.str s3, AV.sl false n4 c5, AV.sl false n6 c7], AV.fn (Fn.func 106) []] [] (AV.bool b11) h12 ∧ Q (AV.bool b11)
      else
        ∃ (b13 : Bool),
          (((bif (↑n4 : Int) == (0 : Int) then (↑n6 : Int) == (0 : Int) else false) && true) = true →
              PC Tryz.prog cfg 141 [AV.agg [AV.int IntKind.i64 i1, AV.int IntKind.i64 i2, AV.str s3, AV.sl false n4 c5, AV.sl false n6 c7]] (AV.bool b13)) ∧
            Q (AV.bool (bif bif (↑n4 : Int) == (0 : Int) then (↑n6 : Int) == (0 : Int) else false then b13 else false)) := by intros; kernel_rfl

theorem n140 : ∀ (n1 : Nat) (c2 : List AV) (Q : AV → Prop),
  BodyP Tryz.prog cfg { ptr := false, sl := 0 } 140 [AV.sl false n1 c2] [] (retE Q) =
    LabelP Tryz.prog cfg { ptr := false, sl := 0 } 140 3 [AV.mapv 0, AV.sl false n1 c2, AV.int IntKind.i64 (↑n1 : Int), AV.int IntKind.i64 0] [some (AObj.map [])] (retE Q) := by intros; kernel_rfl

theorem l140_3 : ∀ (id1 n2 : Nat) (c3 : List AV) (i4 i5 : Int) (h : Heap) (Q : AV → Prop),
  LabelB Tryz.prog cfg { ptr := false, sl := 0 } 140 3 [AV.mapv id1, AV.sl false n2 c3, AV.int IntKind.i64 i4, AV.int IntKind.i64 i5] h (retE Q) =
    bif decide (i5 < i4) then
      ((0 : Int) ≤ i5 ∧ i5 < (↑n2 : Int)) ∧
        ∃ (s6 : List UInt8),
          ∃ (i7 : Int),
            ∃ (i8 : Int),
              ∃ (s9 : List UInt8),
                ∃ (n10 : Nat),
                  ∃ (c11 : List AV),
                    ∃ (n12 : Nat),
                      ∃ (c13 : List AV),
                        seg c3 (Int.toNat i5 * 6) 6 = some [AV.str s6, AV.int IntKind.i64 i7, AV.int IntKind.i64 i8, AV.str s9, AV.sl false n10 c11, AV.sl false n12 c13] ∧
                          ∃ (i14 : Int),
                            ∃ (b15 : Bool),
                              aLookup Tryz.prog 166 h (AV.mapv id1) (AV.str s6) true = some (AV.tup [AV.int IntKind.i64 i14, AV.bool b15]) ∧
                                ∃ (b16 : Bool),
                                  ((!b15 && true) = true → PC Tryz.prog cfg 167 [AV.str s6] (AV.bool b16)) ∧
                                    bif bif b15 then true else !b16 then Q (AV.bool false)
                                    else
                                      ∃ (h17 : Heap),
                                        aMapUpdate Tryz.prog 166 h (AV.mapv id1) (AV.str s6) (AV.int IntKind.i64 i5) = some (Eff.heap h17 AV.undef) ∧
                                          LabelP Tryz.prog cfg { ptr := false, sl := 0 } 140 3
                                            [AV.mapv id1, AV.sl false n2 c3, AV.int IntKind.i64 i4, AV.int IntKind.i64 (IntKind.wrap IntKind.i64 (i5 + (1 : Int)))] h17 (retE Q)
    else Q (AV.bool true) := by intros; kernel_rfl

theorem n141 : ∀ (i1 i2 : Int) (s3 : List UInt8) (n4 : Nat) (c5 : List AV) (n6 : Nat) (c7 : List AV) (Q : AV → Prop),
  BodyP Tryz.prog cfg { ptr := false, sl := 0 } 141 [AV.agg [AV.int IntKind.i64 i1, AV.int IntKind.i64 i2, AV.str s3, AV.sl false n4 c5, AV.sl false n6 c7]] [] (retE Q) =
    bif i1 == (1 : Int) then Q (AV.bool (bif i2 == (0 : Int) then s3 == [] else false))
    else
      bif i1 == (2 : Int) then Q (AV.bool (bif i2 == (0 : Int) then s3 == [] else false))
      else
        bif i1 == (11 : Int) then Q (AV.bool (bif i2 == (0 : Int) then s3 == [] else false))
        else
          bif i1 == (3 : Int) then Q (AV.bool (s3 == []))
          else
            bif i1 == (9 : Int) then Q (AV.bool (bif s3 == [] then bif i2 == (0 : Int) then true else i2 == (1 : Int) else false))
            else
              bif i1 == (10 : Int) then Q (AV.bool (bif s3 == [] then decide (i2 ≥ (0 : Int)) else false))
              else
                bif i1 == (4 : Int) then
                  ∃ (b8 : Bool),
                    (((bif i2 == (0 : Int) then decide ((↑(List.length s3) : Int) ≤ (4096 : Int)) else false) && true) = true → PC Tryz.prog cfg 168 [AV.str s3] (AV.bool b8)) ∧
                      Q (AV.bool (bif bif i2 == (0 : Int) then decide ((↑(List.length s3) : Int) ≤ (4096 : Int)) else false then b8 else false))
                else
                  bif i1 == (7 : Int) then Q (AV.bool (bif i2 == (0 : Int) then decide ((↑(List.length s3) : Int) ≤ (4096 : Int)) else false))
                  else bif i1 == (8 : Int) then Q (AV.bool (bif i2 == (0 : Int) then (↑(List.length s3) : Int) == (12 : Int) else false)) else Q (AV.bool false) := by intros; kernel_rfl

theorem n165 : ∀ (i1 i2 : Int) (s3 : List UInt8) (n4 : Nat) (c5 : List AV) (n6 : Nat) (c7 : List AV) (id8 o9 id10 o11 : Nat) (h : Heap) (Q : AV → Heap → Prop),
  BodyP Tryz.prog cfg { ptr := true, sl := 0 } 165 [AV.agg [AV.int IntKind.i64 i1, AV.int IntKind.i64 i2, AV.str s3, AV.sl false n4 c5, AV.sl false n6 c7], AV.ptr id8 o9, AV.ptr id10 o11] h Q =
    ∃ (i12 : Int),
      readP Env.empty h (AV.ptr id8 o9) 1 = some [AV.int IntKind.i64 i12] ∧
        ∃ (i13 : Int),
          readP Env.empty h (AV.ptr id10 o11) 1 = some [AV.int IntKind.i64 i13] ∧
            ∃ (i14 : Int),
              PC Tryz.prog cfg 138 [AV.agg [AV.int IntKind.i64 i1, AV.int IntKind.i64 i2, AV.str s3, AV.sl false n4 c5, AV.sl false n6 c7], AV.int IntKind.i64 (IntKind.wrap IntKind.i64 (i13 - (1 : Int)))]
                  (AV.int IntKind.i64 i14) ∧
                ∃ (h15 : Heap),
                  aStore Tryz.prog Env.empty h 3 (AV.ptr id8 o9) (AV.int IntKind.i64 (if IntKind.wrap IntKind.i64 ((1 : Int) + i14) > i12 then IntKind.wrap IntKind.i64 ((1 : Int) + i14) else i12)) =
                      some (Eff.heap h15 AV.undef) ∧
                    ∃ (i16 : Int),
                      readP Env.empty h15 (AV.ptr id8 o9) 1 = some [AV.int IntKind.i64 i16] ∧
                        ∃ (i17 : Int), readP Env.empty h15 (AV.ptr id10 o11) 1 = some [AV.int IntKind.i64 i17] ∧ Q (AV.bool (decide (i16 < i17))) h15 := by intros; kernel_rfl

theorem n166 : ∀ (i1 i2 : Int) (s3 : List UInt8) (n4 : Nat) (c5 : List AV) (n6 : Nat) (c7 : List AV) (id8 o9 id10 o11 id12 o13 : Nat) (h : Heap) (Q : AV → Heap → Prop),
  BodyP Tryz.prog cfg { ptr := true, sl := 0 } 166 [AV.agg [AV.int IntKind.i64 i1, AV.int IntKind.i64 i2, AV.str s3, AV.sl false n4 c5, AV.sl false n6 c7], AV.ptr id8 o9, AV.ptr id10 o11, AV.ptr id12 o13] h Q =
    ∃ (i14 : Int),
      readP Env.empty h (AV.ptr id8 o9) 1 = some [AV.int IntKind.i64 i14] ∧
        ∃ (i15 : Int),
          readP Env.empty h (AV.ptr id10 o11) 1 = some [AV.int IntKind.i64 i15] ∧
            ∃ (i16 : Int),
              readP Env.empty h (AV.ptr id8 o9) 1 = some [AV.int IntKind.i64 i16] ∧
                ∃ (i17 : Int),
                  readP Env.empty h (AV.ptr id12 o13) 1 = some [AV.int IntKind.i64 i17] ∧
                    ∃ (i18 : Int),
                      PC Tryz.prog cfg 139
                          [AV.agg [AV.int IntKind.i64 i1, AV.int IntKind.i64 i2, AV.str s3, AV.sl false n4 c5, AV.sl false n6 c7], AV.int IntKind.i64 (IntKind.wrap IntKind.i64 (i15 - i16)),
                            AV.int IntKind.i64 (IntKind.wrap IntKind.i64 (i17 - (1 : Int)))]
                          (AV.int IntKind.i64 i18) ∧
                        ∃ (h19 : Heap),
                          aStore Tryz.prog Env.empty h 3 (AV.ptr id8 o9) (AV.int IntKind.i64 (IntKind.wrap IntKind.i64 (i14 + i18))) = some (Eff.heap h19 AV.undef) ∧
                            ∃ (i20 : Int),
                              readP Env.empty h19 (AV.ptr id8 o9) 1 = some [AV.int IntKind.i64 i20] ∧
                                ∃ (i21 : Int), readP Env.empty h19 (AV.ptr id10 o11) 1 = some [AV.int IntKind.i64 i21] ∧ Q (AV.bool (decide (i20 < i21))) h19 := by intros; kernel_rfl

theorem n167 : ∀ (s1 : List UInt8) (Q : AV → Prop),
  BodyP Tryz.prog cfg { ptr := false, sl := 0 } 167 [AV.str s1] [] (retE Q) =
    ((((!bif s1 == [] then true else decide ((↑(List.length s1) : Int) > (32 : Int))) && true) = true → (0 : Int) ≤ (0 : Int) ∧ (0 : Int) < (↑(List.length s1) : Int)) ∧
      bif bif bif s1 == [] then true else decide ((↑(List.length s1) : Int) > (32 : Int)) then true else (↑(UInt8.toNat (List.getD s1 0 0)) : Int) == (36 : Int) then Q (AV.bool false)
      else LabelP Tryz.prog cfg { ptr := false, sl := 0 } 167 4 [AV.str s1, AV.int IntKind.i64 (↑(List.length s1) : Int), AV.int IntKind.i64 0] [] (retE Q)) := by intros; kernel_rfl

theorem l167_4 : ∀ (s1 : List UInt8) (i2 i3 : Int) (h : Heap) (Q : AV → Prop),
  LabelB Tryz.prog cfg { ptr := false, sl := 0 } 167 4 [AV.str s1, AV.int IntKind.i64 i2, AV.int IntKind.i64 i3] h (retE Q) =
    bif decide (i3 < i2) then
      ((0 : Int) ≤ i3 ∧ i3 < (↑(List.length s1) : Int)) ∧
        ((!decide ((↑(UInt8.toNat (List.getD s1 (Int.toNat i3) 0)) : Int) < (33 : Int)) && true) = true → (0 : Int) ≤ i3 ∧ i3 < (↑(List.length s1) : Int)) ∧
          (((!bif decide ((↑(UInt8.toNat (List.getD s1 (Int.toNat i3) 0)) : Int) < (33 : Int)) then true else decide ((↑(UInt8.toNat (List.getD s1 (Int.toNat i3) 0)) : Int) > (126 : Int))) && true) = true →
              (0 : Int) ≤ i3 ∧ i3 < (↑(List.length s1) : Int)) ∧
            bif
                bif bif decide ((↑(UInt8.toNat (List.getD s1 (Int.toNat i3) 0)) : Int) < (33 : Int)) then true else decide ((↑(UInt8.toNat (List.getD s1 (Int.toNat i3) 0)) : Int) > (126 : Int)) then true
                else (↑(UInt8.toNat (List.getD s1 (Int.toNat i3) 0)) : Int) == (46 : Int) then
              Q (AV.bool false)
            else LabelP Tryz.prog cfg { ptr := false, sl := 0 } 167 4 [AV.str s1, AV.int IntKind.i64 i2, AV.int IntKind.i64 (IntKind.wrap IntKind.i64 (i3 + (1 : Int)))] h (retE Q)
    else Q (AV.bool true) := by intros; kernel_rfl

theorem n168 : ∀ (s1 : List UInt8) (Q : AV → Prop), BodyP Tryz.prog cfg { ptr := false, sl := 0 } 168 [AV.str s1] [] (retE Q) = LabelP Tryz.prog cfg { ptr := false, sl := 0 } 168 1 [AV.str s1] [] (retE Q) := by intros; kernel_rfl

theorem l168_1 : ∀ (s1 : List UInt8) (h : Heap) (Q : AV → Prop),
  LabelB Tryz.prog cfg { ptr := false, sl := 0 } 168 1 [AV.str s1] h (retE Q) =
    bif decide ((↑(List.length s1) : Int) > (0 : Int)) then
      ((0 : Int) ≤ (0 : Int) ∧ (0 : Int) < (↑(List.length s1) : Int)) ∧
        bif decide ((↑(UInt8.toNat (List.getD s1 (Int.toNat (0 : Int)) 0)) : Int) < (128 : Int)) then
          (True ∧ (0 : Int) ≤ (1 : Int) ∧ (1 : Int) ≤ (↑(List.length s1) : Int)) ∧
            ∃ (i2 : Int),
              ((decide ((↑(List.length (List.take (List.length s1 - Int.toNat (1 : Int)) (List.drop (Int.toNat (1 : Int)) s1))) : Int) > (8 : Int)) && true) = true →
                  PC Tryz.prog cfg 178 [AV.str (List.take (List.length s1 - 1) (List.drop 1 s1))] (AV.int IntKind.u64 i2)) ∧
                bif
                    bif decide ((↑(List.length (List.take (List.length s1 - Int.toNat (1 : Int)) (List.drop (Int.toNat (1 : Int)) s1))) : Int) > (8 : Int)) then
                      IntKind.wrap IntKind.u64 (↑(BitVec.toNat (BitVec.ofInt (IntKind.bits IntKind.u64) i2 &&& BitVec.ofInt (IntKind.bits IntKind.u64) (9259542123273814144 : Int))) : Int) == (0 : Int)
                    else false then
                  (True ∧ (0 : Int) ≤ (8 : Int) ∧ (8 : Int) ≤ (↑(List.length (List.take (List.length s1 - 1) (List.drop 1 s1))) : Int)) ∧
                    ∃ (i3 : Int),
                      ((decide
                                ((↑(List.length
                                        (List.take (List.length (List.take (List.length s1 - Int.toNat (1 : Int)) (List.drop (Int.toNat (1 : Int)) s1)) - Int.toNat (8 : Int))
                                          (List.drop (Int.toNat (8 : Int)) (List.take (List.length s1 - Int.toNat (1 : Int)) (List.drop (Int.toNat (1 : Int)) s1))))) :
                                    Int) >
                                  (16 : Int)) &&
                              true) =
                            true →
                          PC Tryz.prog cfg 178
                            [AV.str (List.take (List.length (List.take (List.length s1 - 1) (List.drop 1 s1)) - 8) (List.drop 8 (List.take (List.length s1 - 1) (List.drop 1 s1))))]
                            (AV.int IntKind.u64 i3)) ∧
                        ((decide
                                  ((↑(List.length
                                          (List.take (List.length (List.take (List.length s1 - Int.toNat (1 : Int)) (List.drop (Int.toNat (1 : Int)) s1)) - Int.toNat (8 : Int))
                                            (List.drop (Int.toNat (8 : Int)) (List.take (List.length s1 - Int.toNat (1 : Int)) (List.drop (Int.toNat (1 : Int)) s1))))) :
                                      Int) >
                                    (16 : Int)) &&
                                true) =
                              true →
                            True ∧
                              (0 : Int) ≤ (8 : Int) ∧
                                (8 : Int) ≤
                                  (↑(List.length
                                        (List.take (List.length (List.take (List.length s1 - 1) (List.drop 1 s1)) - 8)
                                          (List.drop 8 (List.take (List.length s1 - 1) (List.drop 1 s1))))) :
                                    Int)) ∧
                          ∃ (i4 : Int),
                            ((decide
                                      ((↑(List.length
                                              (List.take (List.length (List.take (List.length s1 - Int.toNat (1 : Int)) (List.drop (Int.toNat (1 : Int)) s1)) - Int.toNat (8 : Int))
                                                (List.drop (Int.toNat (8 : Int)) (List.take (List.length s1 - Int.toNat (1 : Int)) (List.drop (Int.toNat (1 : Int)) s1))))) :
                                          Int) >
                                        (16 : Int)) &&
                                    true) =
                                  true →
                                PC Tryz.prog cfg 178
                                  [AV.str
                                      (List.take
                                        (List.length
                                            (List.take (List.length (List.take (List.length s1 - 1) (List.drop 1 s1)) - 8)
                                              (List.drop 8 (List.take (List.length s1 - 1) (List.drop 1 s1)))) -
                                          8)
                                        (List.drop 8
                                          (List.take (List.length (List.take (List.length s1 - 1) (List.drop 1 s1)) - 8)
                                            (List.drop 8 (List.take (List.length s1 - 1) (List.drop 1 s1))))))]
                                  (AV.int IntKind.u64 i4)) ∧
                              bif
                                  bif
                                      decide
                                        ((↑(List.length
                                                (List.take (List.length (List.take (List.length s1 - Int.toNat (1 : Int)) (List.drop (Int.toNat (1 : Int)) s1)) - Int.toNat (8 : Int))
                                                  (List.drop (Int.toNat (8 : Int)) (List.take (List.length s1 - Int.toNat (1 : Int)) (List.drop (Int.toNat (1 : Int)) s1))))) :
                                            Int) >
                                          (16 : Int)) then
                                    IntKind.wrap IntKind.u64
                                        (↑(BitVec.toNat
                                              (BitVec.ofInt (IntKind.bits IntKind.u64)
                                                  (IntKind.wrap IntKind.u64 (↑(BitVec.toNat (BitVec.ofInt (IntKind.bits IntKind.u64) i3 ||| BitVec.ofInt (IntKind.bits IntKind.u64) i4)) : Int)) &&&
                                                BitVec.ofInt (IntKind.bits IntKind.u64) (9259542123273814144 : Int))) :
                                          Int) ==
                                      (0 : Int)
                                  else false then
                                (True ∧
                                    (0 : Int) ≤ (16 : Int) ∧
                                      (16 : Int) ≤
                                        (↑(List.length
                                              (List.take (List.length (List.take (List.length s1 - 1) (List.drop 1 s1)) - 8)
                                                (List.drop 8 (List.take (List.length s1 - 1) (List.drop 1 s1))))) :
                                          Int)) ∧
                                  LabelP Tryz.prog cfg { ptr := false, sl := 0 } 168 9
                                    [AV.str
                                        (List.take
                                          (List.length
                                              (List.take (List.length (List.take (List.length s1 - 1) (List.drop 1 s1)) - 8)
                                                (List.drop 8 (List.take (List.length s1 - 1) (List.drop 1 s1)))) -
                                            16)
                                          (List.drop 16
                                            (List.take (List.length (List.take (List.length s1 - 1) (List.drop 1 s1)) - 8)
                                              (List.drop 8 (List.take (List.length s1 - 1) (List.drop 1 s1))))))]
                                    h (retE Q)
                              else
                                LabelP Tryz.prog cfg { ptr := false, sl := 0 } 168 1
                                  [AV.str
                                      (List.take (List.length (List.take (List.length s1 - 1) (List.drop 1 s1)) - 8) (List.drop 8 (List.take (List.length s1 - 1) (List.drop 1 s1))))]
                                  h (retE Q)
                else LabelP Tryz.prog cfg { ptr := false, sl := 0 } 168 1 [AV.str (List.take (List.length s1 - 1) (List.drop 1 s1))] h (retE Q)
        else
          ((0 : Int) ≤ (↑(UInt8.toNat (List.getD s1 0 0)) : Int) ∧ (↑(UInt8.toNat (List.getD s1 0 0)) : Int) < (256 : Int)) ∧
            ∃ (i5 : Int),
              seg (gT cfg 2) (0 + Int.toNat (↑(UInt8.toNat (List.getD s1 0 0)) : Int) * 1) 1 = some [AV.int IntKind.u8 i5] ∧
                (0 : Int) ≤ (4 : Int) ∧
                  ((0 : Int) ≤ Int.fdiv i5 (16 : Int) ∧ Int.fdiv i5 (16 : Int) < (16 : Int)) ∧
                    ∃ (i6 : Int),
                      ∃ (i7 : Int),
                        seg (gT cfg 3) (0 + Int.toNat (Int.fdiv i5 (16 : Int)) * 2) 2 = some [AV.int IntKind.u8 i6, AV.int IntKind.u8 i7] ∧
                          bif IntKind.wrap IntKind.i64 (IntKind.wrap IntKind.u8 (↑(BitVec.toNat (BitVec.ofInt (IntKind.bits IntKind.u8) i5 &&& BitVec.ofInt (IntKind.bits IntKind.u8) (7 : Int))) : Int)) == (2 : Int) then
                            ((!decide ((↑(List.length s1) : Int) < (2 : Int)) && true) = true → (0 : Int) ≤ (1 : Int) ∧ (1 : Int) < (↑(List.length s1) : Int)) ∧
                              (((!bif decide ((↑(List.length s1) : Int) < (2 : Int)) then true else decide ((↑(UInt8.toNat (List.getD s1 (Int.toNat (1 : Int)) 0)) : Int) < i6)) && true) = true →
                                  (0 : Int) ≤ (1 : Int) ∧ (1 : Int) < (↑(List.length s1) : Int)) ∧
                                bif
                                    bif bif decide ((↑(List.length s1) : Int) < (2 : Int)) then true else decide ((↑(UInt8.toNat (List.getD s1 (Int.toNat (1 : Int)) 0)) : Int) < i6) then true
                                    else decide (i7 < (↑(UInt8.toNat (List.getD s1 (Int.toNat (1 : Int)) 0)) : Int)) then
                                  Q (AV.bool false)
                                else
                                  (True ∧ (0 : Int) ≤ (2 : Int) ∧ (2 : Int) ≤ (↑(List.length s1) : Int)) ∧
                                    LabelP Tryz.prog cfg { ptr := false, sl := 0 } 168 1 [AV.str (List.take (List.length s1 - 2) (List.drop 2 s1))] h (retE Q)
                          else
                            bif IntKind.wrap IntKind.i64 (IntKind.wrap IntKind.u8 (↑(BitVec.toNat (BitVec.ofInt (IntKind.bits IntKind.u8) i5 &&& BitVec.ofInt (IntKind.bits IntKind.u8) (7 : Int))) : Int)) == (3 : Int) then
                              ((!decide ((↑(List.length s1) : Int) < (3 : Int)) && true) = true → (0 : Int) ≤ (1 : Int) ∧ (1 : Int) < (↑(List.length s1) : Int)) ∧
                                (((!bif decide ((↑(List.length s1) : Int) < (3 : Int)) then true else decide ((↑(UInt8.toNat (List.getD s1 (Int.toNat (1 : Int)) 0)) : Int) < i6)) && true) = true →
                                    (0 : Int) ≤ (1 : Int) ∧ (1 : Int) < (↑(List.length s1) : Int)) ∧
                                  (((!bif bif decide ((↑(List.length s1) : Int) < (3 : Int)) then true else decide ((↑(UInt8.toNat (List.getD s1 (Int.toNat (1 : Int)) 0)) : Int) < i6) then true
                                            else decide (i7 < (↑(UInt8.toNat (List.getD s1 (Int.toNat (1 : Int)) 0)) : Int))) &&
                                          true) =
                                        true →
                                      (0 : Int) ≤ (2 : Int) ∧ (2 : Int) < (↑(List.length s1) : Int)) ∧
                                    (((!bif
                                                  bif bif decide ((↑(List.length s1) : Int) < (3 : Int)) then true else decide ((↑(UInt8.toNat (List.getD s1 (Int.toNat (1 : Int)) 0)) : Int) < i6) then true
                                                  else decide (i7 < (↑(UInt8.toNat (List.getD s1 (Int.toNat (1 : Int)) 0)) : Int)) then
                                                true
                                              else decide ((↑(UInt8.toNat (List.getD s1 (Int.toNat (2 : Int)) 0)) : Int) < (128 : Int))) &&
                                            true) =
                                          true →
                                        (0 : Int) ≤ (2 : Int) ∧ (2 : Int) < (↑(List.length s1) : Int)) ∧
                                      bif
                                          bif
                                              bif
                                                  bif bif decide ((↑(List.length s1) : Int) < (3 : Int)) then true else decide ((↑(UInt8.toNat (List.getD s1 (Int.toNat (1 : Int)) 0)) : Int) < i6) then true
                                                  else decide (i7 < (↑(UInt8.toNat (List.getD s1 (Int.toNat (1 : Int)) 0)) : Int)) then
                                                true
                                              else decide ((↑(UInt8.toNat (List.getD s1 (Int.toNat (2 : Int)) 0)) : Int) < (128 : Int)) then
                                            true
                                          else decide ((191 : Int) < (↑(UInt8.toNat (List.getD s1 (Int.toNat (2 : Int)) 0)) : Int)) then
                                        Q (AV.bool false)
                                      else
                                        (True ∧ (0 : Int) ≤ (3 : Int) ∧ (3 : Int) ≤ (↑(List.length s1) : Int)) ∧
                                          LabelP Tryz.prog cfg { ptr := false, sl := 0 } 168 1 [AV.str (List.take (List.length s1 - 3) (List.drop 3 s1))] h (retE Q)
                            else
                              bif IntKind.wrap IntKind.i64 (IntKind.wrap IntKind.u8 (↑(BitVec.toNat (BitVec.ofInt (IntKind.bits IntKind.u8) i5 &&& BitVec.ofInt (IntKind.bits IntKind.u8) (7 : Int))) : Int)) == (4 : Int) then
                                ((!decide ((↑(List.length s1) : Int) < (4 : Int)) && true) = true → (0 : Int) ≤ (1 : Int) ∧ (1 : Int) < (↑(List.length s1) : Int)) ∧
                                  (((!bif decide ((↑(List.length s1) : Int) < (4 : Int)) then true else decide ((↑(UInt8.toNat (List.getD s1 (Int.toNat (1 : Int)) 0)) : Int) < i6)) && true) = true →
                                      (0 : Int) ≤ (1 : Int) ∧ (1 : Int) < (↑(List.length s1) : Int)) ∧
                                    (((!bif bif decide ((↑(List.length s1) : Int) < (4 : Int)) then true else decide ((↑(UInt8.toNat (List.getD s1 (Int.toNat (1 : Int)) 0)) : Int) < i6) then true
                                              else decide (i7 < (↑(UInt8.toNat (List.getD s1 (Int.toNat (1 : Int)) 0)) : Int))) &&
                                            true) =
                                          true →
                                        (0 : Int) ≤ (2 : Int) ∧ (2 : Int) < (↑(List.length s1) : Int)) ∧
                                      (((!bif
                                                    bif bif decide ((↑(List.length s1) : Int) < (4 : Int)) then true else decide ((↑(UInt8.toNat (List.getD s1 (Int.toNat (1 : Int)) 0)) : Int) < i6) then true
                                                    else decide (i7 < (↑(UInt8.toNat (List.getD s1 (Int.toNat (1 : Int)) 0)) : Int)) then
                                                  true
                                                else decide ((↑(UInt8.toNat (List.getD s1 (Int.toNat (2 : Int)) 0)) : Int) < (128 : Int))) &&
                                              true) =
                                            true →
                                          (0 : Int) ≤ (2 : Int) ∧ (2 : Int) < (↑(List.length s1) : Int)) ∧
                                        (((!bif
                                                      bif
                                                          bif bif decide ((↑(List.length s1) : Int) < (4 : Int)) then true else decide ((↑(UInt8.toNat (List.getD s1 (Int.toNat (1 : Int)) 0)) : Int) < i6) then true
                                                          else decide (i7 < (↑(UInt8.toNat (List.getD s1 (Int.toNat (1 : Int)) 0)) : Int)) then
                                                        true
                                                      else decide ((↑(UInt8.toNat (List.getD s1 (Int.toNat (2 : Int)) 0)) : Int) < (128 : Int)) then
                                                    true
                                                  else decide ((191 : Int) < (↑(UInt8.toNat (List.getD s1 (Int.toNat (2 : Int)) 0)) : Int))) &&
                                                true) =
                                              true →
                                            (0 : Int) ≤ (3 : Int) ∧ (3 : Int) < (↑(List.length s1) : Int)) ∧
                                          (((!bif
                                                        bif
                                                            bif
                                                                bif bif decide ((↑(List.length s1) : Int) < (4 : Int)) then true else decide ((↑(UInt8.toNat (List.getD s1 (Int.toNat (1 : Int)) 0)) : Int) < i6) then true
                                                                else decide (i7 < (↑(UInt8.toNat (List.getD s1 (Int.toNat (1 : Int)) 0)) : Int)) then
                                                              true
                                                            else decide ((↑(UInt8.toNat (List.getD s1 (Int.toNat (2 : Int)) 0)) : Int) < (128 : Int)) then
                                                          true
                                                        else decide ((191 : Int) < (↑(UInt8.toNat (List.getD s1 (Int.toNat (2 : Int)) 0)) : Int)) then
                                                      true
                                                    else decide ((↑(UInt8.toNat (List.getD s1 (Int.toNat (3 : Int)) 0)) : Int) < (128 : Int))) &&
                                                  true) =
                                                true →
                                              (0 : Int) ≤ (3 : Int) ∧ (3 : Int) < (↑(List.length s1) : Int)) ∧
                                            bif
                                                bif
                                                    bif
                                                        bif
                                                            bif
                                                                bif bif decide ((↑(List.length s1) : Int) < (4 : Int)) then true else decide ((↑(UInt8.toNat (List.getD s1 (Int.toNat (1 : Int)) 0)) : Int) < i6) then true
                                                                else decide (i7 < (↑(UInt8.toNat (List.getD s1 (Int.toNat (1 : Int)) 0)) : Int)) then
                                                              true
                                                            else decide ((↑(UInt8.toNat (List.getD s1 (Int.toNat (2 : Int)) 0)) : Int) < (128 : Int)) then
                                                          true
                                                        else decide ((191 : Int) < (↑(UInt8.toNat (List.getD s1 (Int.toNat (2 : Int)) 0)) : Int)) then
                                                      true
                                                    else decide ((↑(UInt8.toNat (List.getD s1 (Int.toNat (3 : Int)) 0)) : Int) < (128 : Int)) then
                                                  true
                                                else decide ((191 : Int) < (↑(UInt8.toNat (List.getD s1 (Int.toNat (3 : Int)) 0)) : Int)) then
                                              Q (AV.bool false)
                                            else
                                              (True ∧ (0 : Int) ≤ (4 : Int) ∧ (4 : Int) ≤ (↑(List.length s1) : Int)) ∧
                                                LabelP Tryz.prog cfg { ptr := false, sl := 0 } 168 1 [AV.str (List.take (List.length s1 - 4) (List.drop 4 s1))] h (retE Q)
                              else Q (AV.bool false)
    else Q (AV.bool true) := by intros; kernel_rfl

theorem l168_9 : ∀ (s1 : List UInt8) (h : Heap) (Q : AV → Prop),
  LabelB Tryz.prog cfg { ptr := false, sl := 0 } 168 9 [AV.str s1] h (retE Q) =
    ∃ (i2 : Int),
      ((decide ((↑(List.length s1) : Int) > (32 : Int)) && true) = true → PC Tryz.prog cfg 178 [AV.str s1] (AV.int IntKind.u64 i2)) ∧
        ((decide ((↑(List.length s1) : Int) > (32 : Int)) && true) = true → True ∧ (0 : Int) ≤ (8 : Int) ∧ (8 : Int) ≤ (↑(List.length s1) : Int)) ∧
          ∃ (i3 : Int),
            ((decide ((↑(List.length s1) : Int) > (32 : Int)) && true) = true → PC Tryz.prog cfg 178 [AV.str (List.take (List.length s1 - 8) (List.drop 8 s1))] (AV.int IntKind.u64 i3)) ∧
              ((decide ((↑(List.length s1) : Int) > (32 : Int)) && true) = true → True ∧ (0 : Int) ≤ (16 : Int) ∧ (16 : Int) ≤ (↑(List.length s1) : Int)) ∧
                ∃ (i4 : Int),
                  ((decide ((↑(List.length s1) : Int) > (32 : Int)) && true) = true → PC Tryz.prog cfg 178 [AV.str (List.take (List.length s1 - 16) (List.drop 16 s1))] (AV.int IntKind.u64 i4)) ∧
                    ((decide ((↑(List.length s1) : Int) > (32 : Int)) && true) = true → True ∧ (0 : Int) ≤ (24 : Int) ∧ (24 : Int) ≤ (↑(List.length s1) : Int)) ∧
                      ∃ (i5 : Int),
                        ((decide ((↑(List.length s1) : Int) > (32 : Int)) && true) = true → PC Tryz.prog cfg 178 [AV.str (List.take (List.length s1 - 24) (List.drop 24 s1))] (AV.int IntKind.u64 i5)) ∧
                          bif
                              bif decide ((↑(List.length s1) : Int) > (32 : Int)) then
                                IntKind.wrap IntKind.u64
                                    (↑(BitVec.toNat
                                          (BitVec.ofInt (IntKind.bits IntKind.u64)
                                              (IntKind.wrap IntKind.u64
                                                (↑(BitVec.toNat
                                                      (BitVec.ofInt (IntKind.bits IntKind.u64)
                                                          (IntKind.wrap IntKind.u64 (↑(BitVec.toNat (BitVec.ofInt (IntKind.bits IntKind.u64) i2 ||| BitVec.ofInt (IntKind.bits IntKind.u64) i3)) : Int)) |||
                                                        BitVec.ofInt (IntKind.bits IntKind.u64)
                                                          (IntKind.wrap IntKind.u64 (↑(BitVec.toNat (BitVec.ofInt (IntKind.bits IntKind.u64) i4 ||| BitVec.ofInt (IntKind.bits IntKind.u64) i5)) : Int)))) :
                                                  Int)) &&&
                                            BitVec.ofInt (IntKind.bits IntKind.u64) (9259542123273814144 : Int))) :
                                      Int) ==
                                  (0 : Int)
                              else false then
                            (True ∧ (0 : Int) ≤ (32 : Int) ∧ (32 : Int) ≤ (↑(List.length s1) : Int)) ∧
                              LabelP Tryz.prog cfg { ptr := false, sl := 0 } 168 9 [AV.str (List.take (List.length s1 - 32) (List.drop 32 s1))] h (retE Q)
                          else LabelP Tryz.prog cfg { ptr := false, sl := 0 } 168 1 [AV.str s1] h (retE Q) := by intros; kernel_rfl

theorem n20 : ∀ (i1 : Int) (n2 : Nat) (c3 : List AV) (s4 : List UInt8) (n5 : Nat) (c6 : List AV) (i7 i8 : Int) (s9 : List UInt8) (n10 : Nat) (c11 : List AV) (n12 : Nat) (c13 : List AV) (i14 : Int) (n15 : Nat) (c16 : List AV) (Q : AV → Prop),
  BodyP Tryz.prog cfg { ptr := false, sl := 0 } 20
      [AV.agg
          [AV.int IntKind.i64 i1, AV.sl false n2 c3, AV.str s4, AV.sl false n5 c6, AV.int IntKind.i64 i7, AV.int IntKind.i64 i8, AV.str s9, AV.sl false n10 c11, AV.sl false n12 c13, AV.int IntKind.i64 i14, AV.sl false n15 c16]]
      [] (retE Q) =
    ∃ (i17 : Int),
      PC Tryz.prog cfg 11
          [AV.agg
              [AV.int IntKind.i64 i1, AV.sl false n2 c3, AV.str s4, AV.sl false n5 c6, AV.int IntKind.i64 i7, AV.int IntKind.i64 i8, AV.str s9, AV.sl false n10 c11, AV.sl false n12 c13, AV.int IntKind.i64 i14,
                AV.sl false n15 c16]]
          (AV.int IntKind.i64 i17) ∧
        bif i17 != (0 : Int) then
          ∃ (v18 : AV), some (AV.tup [AV.agg [AV.int IntKind.i64 0, AV.int IntKind.i64 0, AV.str [], AV.sl false 0 [], AV.sl false 0 []], AV.int IntKind.i64 i17]) = some v18 ∧ Q v18
        else
          ∃ (i19 : Int),
            ∃ (i20 : Int),
              ∃ (s21 : List UInt8),
                ∃ (n22 : Nat),
                  ∃ (c23 : List AV),
                    ∃ (n24 : Nat),
                      ∃ (c25 : List AV),
                        PC Tryz.prog cfg 48
                            [AV.agg
                                [AV.int IntKind.i64 i1, AV.sl false n2 c3, AV.str s4, AV.sl false n5 c6, AV.int IntKind.i64 i7, AV.int IntKind.i64 i8, AV.str s9, AV.sl false n10 c11, AV.sl false n12 c13, AV.int IntKind.i64 i14,
                                  AV.sl false n15 c16]]
                            (AV.agg [AV.int IntKind.i64 i19, AV.int IntKind.i64 i20, AV.str s21, AV.sl false n22 c23, AV.sl false n24 c25]) ∧
                          ∃ (b26 : Bool),
                            ∃ (h27 : Heap),
                              Call Tryz.prog cfg 49 [AV.agg [AV.int IntKind.i64 i19, AV.int IntKind.i64 i20, AV.str s21, AV.sl false n22 c23, AV.sl false n24 c25], AV.int IntKind.i64 1, AV.ptr 0 0]
                                  [some (AObj.arr [AV.int IntKind.i64 0])] (AV.bool b26) h27 ∧
                                bif !b26 then
                                  ∃ (v28 : AV),
                                    some (AV.tup [AV.agg [AV.int IntKind.i64 0, AV.int IntKind.i64 0, AV.str [], AV.sl false 0 [], AV.sl false 0 []], AV.int IntKind.i64 2]) = some v28 ∧
                                      Q v28
                                else
                                  ∃ (i29 : Int),
                                    ∃ (i30 : Int),
                                      ∃ (s31 : List UInt8),
                                        ∃ (n32 : Nat),
                                          ∃ (c33 : List AV),
                                            ∃ (n34 : Nat),
                                              ∃ (c35 : List AV),
                                                PC Tryz.prog cfg 45 [AV.agg [AV.int IntKind.i64 i19, AV.int IntKind.i64 i20, AV.str s21, AV.sl false n22 c23, AV.sl false n24 c25]]
                                                    (AV.agg [AV.int IntKind.i64 i29, AV.int IntKind.i64 i30, AV.str s31, AV.sl false n32 c33, AV.sl false n34 c35]) ∧
                                                  ∃ (v36 : AV),
                                                    eraseW false (resH h27 8)
                                                          (AV.tup [AV.agg [AV.int IntKind.i64 i29, AV.int IntKind.i64 i30, AV.str s31, AV.sl false n32 c33, AV.sl false n34 c35], AV.int IntKind.i64 0]) =
                                                        some v36 ∧
                                                      Q v36 := by intros; kernel_rfl

theorem n48 : ∀ (i1 : Int) (n2 : Nat) (c3 : List AV) (s4 : List UInt8) (n5 : Nat) (c6 : List AV) (i7 i8 : Int) (s9 : List UInt8) (n10 : Nat) (c11 : List AV) (n12 : Nat) (c13 : List AV) (i14 : Int) (n15 : Nat) (c16 : List AV) (Q : AV → Prop),
  BodyP Tryz.prog cfg { ptr := false, sl := 0 } 48
      [AV.agg
          [AV.int IntKind.i64 i1, AV.sl false n2 c3, AV.str s4, AV.sl false n5 c6, AV.int IntKind.i64 i7, AV.int IntKind.i64 i8, AV.str s9, AV.sl false n10 c11, AV.sl false n12 c13, AV.int IntKind.i64 i14, AV.sl false n15 c16]]
      [] (retE Q) =
    LabelP Tryz.prog cfg { ptr := false, sl := 0 } 48 3
      [AV.box
          [AV.int IntKind.i64 i1, AV.sl false n2 c3, AV.str s4, AV.sl false n5 c6, AV.int IntKind.i64 i7, AV.int IntKind.i64 i8, AV.str s9, AV.sl false n10 c11, AV.sl false n12 c13, AV.int IntKind.i64 i14, AV.sl false n15 c16],
        AV.box [AV.int IntKind.i64 0, AV.int IntKind.i64 0, AV.str [], AV.tk 0 0 [], AV.tk 0 0 []], AV.tk 0 0 [], AV.sl false n15 c16,
        AV.int IntKind.i64 (↑n15 : Int), AV.int IntKind.i64 0]
      [] (retE Q) := by intros; kernel_rfl

theorem l48_3 : ∀ (i1 : Int) (n2 : Nat) (c3 : List AV) (s4 : List UInt8) (n5 : Nat) (c6 : List AV) (i7 i8 : Int) (s9 : List UInt8) (n10 : Nat) (c11 : List AV) (n12 : Nat) (c13 : List AV) (i14 : Int) (n15 : Nat) (c16 : List AV) (i17 i18 : Int)
  (s19 : List UInt8) (id22 n20 : Nat) (c21 : List AV) (id25 n23 : Nat) (c24 : List AV) (id28 n26 : Nat) (c27 : List AV) (n29 : Nat) (c30 : List AV) (i31 i32 : Int) (h : Heap) (Q : AV → Prop),
  LabelB Tryz.prog cfg { ptr := false, sl := 0 } 48 3
      [AV.box
          [AV.int IntKind.i64 i1, AV.sl false n2 c3, AV.str s4, AV.sl false n5 c6, AV.int IntKind.i64 i7, AV.int IntKind.i64 i8, AV.str s9, AV.sl false n10 c11, AV.sl false n12 c13, AV.int IntKind.i64 i14, AV.sl false n15 c16],
        AV.box [AV.int IntKind.i64 i17, AV.int IntKind.i64 i18, AV.str s19, AV.tk id22 n20 c21, AV.tk id25 n23 c24], AV.tk id28 n26 c27, AV.sl false n29 c30, AV.int IntKind.i64 i31, AV.int IntKind.i64 i32]
      h (retE Q) =
    bif decide (i32 < i31) then
      ((0 : Int) ≤ i32 ∧ i32 < (↑n29 : Int)) ∧
        ∃ (i33 : Int),
          ∃ (n34 : Nat),
            ∃ (c35 : List AV),
              ∃ (s36 : List UInt8),
                ∃ (n37 : Nat),
                  ∃ (c38 : List AV),
                    ∃ (i39 : Int),
                      ∃ (i40 : Int),
                        ∃ (s41 : List UInt8),
                          ∃ (n42 : Nat),
                            ∃ (c43 : List AV),
                              ∃ (n44 : Nat),
                                ∃ (c45 : List AV),
                                  ∃ (i46 : Int),
                                    ∃ (n47 : Nat),
                                      ∃ (c48 : List AV),
                                        seg c30 (Int.toNat i32 * 11) 11 =
                                            some
                                              [AV.int IntKind.i64 i33, AV.sl false n34 c35, AV.str s36, AV.sl false n37 c38, AV.int IntKind.i64 i39, AV.int IntKind.i64 i40, AV.str s41, AV.sl false n42 c43, AV.sl false n44 c45,
                                                AV.int IntKind.i64 i46, AV.sl false n47 c48] ∧
                                          ∃ (i49 : Int),
                                            ∃ (i50 : Int),
                                              ∃ (s51 : List UInt8),
                                                ∃ (n52 : Nat),
                                                  ∃ (c53 : List AV),
                                                    ∃ (n54 : Nat),
                                                      ∃ (c55 : List AV),
                                                        PC Tryz.prog cfg 48
                                                            [AV.agg
                                                                [AV.int IntKind.i64 i33, AV.sl false n34 c35, AV.str s36, AV.sl false n37 c38, AV.int IntKind.i64 i39, AV.int IntKind.i64 i40, AV.str s41, AV.sl false n42 c43,
                                                                  AV.sl false n44 c45, AV.int IntKind.i64 i46, AV.sl false n47 c48]]
                                                            (AV.agg [AV.int IntKind.i64 i49, AV.int IntKind.i64 i50, AV.str s51, AV.sl false n52 c53, AV.sl false n54 c55]) ∧
                                                          ∃ (h56 : Heap),
                                                            ∃ (n57 : Nat),
                                                              AppT Tryz.prog #[23, 23] h id28 n26 c27
                                                                  (AV.sl true 1 [AV.int IntKind.i64 i49, AV.int IntKind.i64 i50, AV.str s51, AV.sl false n52 c53, AV.sl false n54 c55]) 1
                                                                  [AV.int IntKind.i64 i49, AV.int IntKind.i64 i50, AV.str s51, AV.sl false n52 c53, AV.sl false n54 c55] h56 n57 ∧
                                                                LabelP Tryz.prog cfg { ptr := false, sl := 0 } 48 3
                                                                  [AV.box
                                                                      [AV.int IntKind.i64 i1, AV.sl false n2 c3, AV.str s4, AV.sl false n5 c6, AV.int IntKind.i64 i7, AV.int IntKind.i64 i8, AV.str s9, AV.sl false n10 c11,
                                                                        AV.sl false n12 c13, AV.int IntKind.i64 i14, AV.sl false n15 c16],
                                                                    AV.box [AV.int IntKind.i64 i17, AV.int IntKind.i64 i18, AV.str s19, AV.tk id22 n20 c21, AV.tk id25 n23 c24],
                                                                    AV.tk n57 (n26 + 1) (c27 ++ [AV.int IntKind.i64 i49, AV.int IntKind.i64 i50, AV.str s51, AV.sl false n52 c53, AV.sl false n54 c55]), AV.sl false n29 c30,
                                                                    AV.int IntKind.i64 i31, AV.int IntKind.i64 (IntKind.wrap IntKind.i64 (i32 + (1 : Int)))]
                                                                  h56 (retE Q)
    else
      ∃ (i58 : Int),
        ∃ (i59 : Int),
          ∃ (s60 : List UInt8),
            ∃ (n61 : Nat),
              ∃ (c62 : List AV),
                ∃ (n63 : Nat),
                  ∃ (c64 : List AV),
                    PC Tryz.prog cfg 75 [AV.tk id28 n26 c27] (AV.agg [AV.int IntKind.i64 i58, AV.int IntKind.i64 i59, AV.str s60, AV.sl false n61 c62, AV.sl false n63 c64]) ∧
                      bif i1 == (1 : Int) then
                        ∃ (b65 : Bool),
                          ((i7 == (4 : Int) && ((bif i7 != (6 : Int) then bif i7 != (5 : Int) then true else (↑n12 : Int) == (0 : Int) else false) && true)) = true →
                              PC Tryz.prog cfg 63 [AV.str s9, AV.str [36]] (AV.bool b65)) ∧
                            bif bif bif i7 != (6 : Int) then bif i7 != (5 : Int) then true else (↑n12 : Int) == (0 : Int) else false then !bif i7 == (4 : Int) then b65 else false else false then
                              ∃ (v66 : AV), eraseW false (resH h 8) (AV.agg [AV.int IntKind.i64 i7, AV.int IntKind.i64 i8, AV.str s9, AV.sl false n10 c11, AV.sl false n12 c13]) = some v66 ∧ Q v66
                            else
                              ((0 : Int) ≤ i1 ∧ i1 < (38 : Int)) ∧
                                ∃ (s67 : List UInt8),
                                  seg (gT cfg 0) (0 + Int.toNat i1 * 2 + 0) 1 = some [AV.str s67] ∧
                                    ∃ (v68 : AV),
                                      eraseW false (resH h 8)
                                            (AV.agg
                                              [AV.int IntKind.i64 5, AV.int IntKind.i64 0, AV.str [], AV.tk 0 0 [],
                                                AV.sl true 1 [AV.str s67, AV.int IntKind.i64 i7, AV.int IntKind.i64 i8, AV.str s9, AV.sl false n10 c11, AV.sl false n12 c13]]) =
                                          some v68 ∧
                                        Q v68
                      else
                        bif i1 == (2 : Int) then
                          ∃ (s69 : List UInt8),
                            PC Tryz.prog cfg 36 [AV.sl false n2 c3] (AV.str s69) ∧
                              1 + List.length s69 ≤ 4611686018427387904 ∧
                                ∃ (i70 : Int),
                                  ∃ (i71 : Int),
                                    ∃ (s72 : List UInt8),
                                      ∃ (n73 : Nat),
                                        ∃ (c74 : List AV),
                                          ∃ (n75 : Nat),
                                            ∃ (c76 : List AV),
                                              PC Tryz.prog cfg 76 [AV.str ([36] ++ s69)] (AV.agg [AV.int IntKind.i64 i70, AV.int IntKind.i64 i71, AV.str s72, AV.sl false n73 c74, AV.sl false n75 c76]) ∧
                                                ∃ (v77 : AV), eraseW false (resH h 8) (AV.agg [AV.int IntKind.i64 i70, AV.int IntKind.i64 i71, AV.str s72, AV.sl false n73 c74, AV.sl false n75 c76]) = some v77 ∧ Q v77
                        else
                          bif i1 == (3 : Int) then
                            (n2 = 0 →
                                aAppend Tryz.prog false #[22, 22] h (AV.sl true 1 [AV.str s4]) (AV.sl false n2 c3) = some (Eff.val (AV.sl true 1 [AV.str s4])) ∧
                                  ∃ (s78 : List UInt8),
                                    PC Tryz.prog cfg 58 [AV.sl true 1 [AV.str s4], AV.str [46]] (AV.str s78) ∧
                                      2 + List.length s78 ≤ 4611686018427387904 ∧
                                        ∃ (i79 : Int),
                                          ∃ (i80 : Int),
                                            ∃ (s81 : List UInt8),
                                              ∃ (n82 : Nat),
                                                ∃ (c83 : List AV),
                                                  ∃ (n84 : Nat),
                                                    ∃ (c85 : List AV),
                                                      PC Tryz.prog cfg 76 [AV.str ([36, 36] ++ s78)]
                                                          (AV.agg [AV.int IntKind.i64 i79, AV.int IntKind.i64 i80, AV.str s81, AV.sl false n82 c83, AV.sl false n84 c85]) ∧
                                                        ∃ (v86 : AV),
                                                          eraseW false (resH h 8) (AV.agg [AV.int IntKind.i64 i79, AV.int IntKind.i64 i80, AV.str s81, AV.sl false n82 c83, AV.sl false n84 c85]) = some v86 ∧ Q v86) ∧
                              (n2 ≠ 0 →
                                ∃ (h87 : Heap),
                                  ∃ (n88 : Nat),
                                    aAppend Tryz.prog false #[22, 22] h (AV.sl true 1 [AV.str s4]) (AV.sl false n2 c3) = some (Eff.heap h87 (AV.tk n88 (1 + n2) (AV.str s4 :: c3))) ∧
                                      ∃ (s89 : List UInt8),
                                        PC Tryz.prog cfg 58 [AV.tk n88 (1 + n2) (AV.str s4 :: c3), AV.str [46]] (AV.str s89) ∧
                                          2 + List.length s89 ≤ 4611686018427387904 ∧
                                            ∃ (i90 : Int),
                                              ∃ (i91 : Int),
                                                ∃ (s92 : List UInt8),
                                                  ∃ (n93 : Nat),
                                                    ∃ (c94 : List AV),
                                                      ∃ (n95 : Nat),
                                                        ∃ (c96 : List AV),
                                                          PC Tryz.prog cfg 76 [AV.str ([36, 36] ++ s89)]
                                                              (AV.agg [AV.int IntKind.i64 i90, AV.int IntKind.i64 i91, AV.str s92, AV.sl false n93 c94, AV.sl false n95 c96]) ∧
                                                            ∃ (v97 : AV),
                                                              eraseW false (resH h87 8) (AV.agg [AV.int IntKind.i64 i90, AV.int IntKind.i64 i91, AV.str s92, AV.sl false n93 c94, AV.sl false n95 c96]) = some v97 ∧ Q v97)
                          else
                            bif i1 == (35 : Int) then ∃ (v98 : AV), eraseW false (resH h 8) (AV.agg [AV.int IntKind.i64 i58, AV.int IntKind.i64 i59, AV.str s60, AV.sl false n61 c62, AV.sl false n63 c64]) = some v98 ∧ Q v98
                            else
                              bif i1 == (34 : Int) then
                                LabelP Tryz.prog cfg { ptr := false, sl := 0 } 48 25
                                  [AV.box [AV.int IntKind.i64 i17, AV.int IntKind.i64 i18, AV.str s19, AV.tk id22 n20 c21, AV.tk id25 n23 c24], AV.tk id28 n26 c27,
                                    AV.box [AV.int IntKind.i64 5, AV.int IntKind.i64 0, AV.str [], AV.tk 0 0 [], AV.tk 0 0 []], AV.sl false n5 c6, AV.int IntKind.i64 (↑n5 : Int),
                                    AV.int IntKind.i64 0]
                                  h (retE Q)
                              else
                                bif i1 == (32 : Int) then
                                  ((0 : Int) ≤ (0 : Int) ∧ (0 : Int) < (↑n26 : Int)) ∧
                                    ∃ (i99 : Int),
                                      ∃ (i100 : Int),
                                        ∃ (s101 : List UInt8),
                                          ∃ (n102 : Nat),
                                            ∃ (c103 : List AV),
                                              ∃ (n104 : Nat),
                                                ∃ (c105 : List AV),
                                                  seg c27 0 5 = some [AV.int IntKind.i64 i99, AV.int IntKind.i64 i100, AV.str s101, AV.sl false n102 c103, AV.sl false n104 c105] ∧
                                                    ∃ (i106 : Int),
                                                      ∃ (i107 : Int),
                                                        ∃ (s108 : List UInt8),
                                                          ∃ (n109 : Nat),
                                                            ∃ (c110 : List AV),
                                                              ∃ (n111 : Nat),
                                                                ∃ (c112 : List AV),
                                                                  PC Tryz.prog cfg 76 [AV.str s4] (AV.agg [AV.int IntKind.i64 i106, AV.int IntKind.i64 i107, AV.str s108, AV.sl false n109 c110, AV.sl false n111 c112]) ∧
                                                                    ((0 : Int) ≤ (1 : Int) ∧ (1 : Int) < (↑n26 : Int)) ∧
                                                                      ∃ (i113 : Int),
                                                                        ∃ (i114 : Int),
                                                                          ∃ (s115 : List UInt8),
                                                                            ∃ (n116 : Nat),
                                                                              ∃ (c117 : List AV),
                                                                                ∃ (n118 : Nat),
                                                                                  ∃ (c119 : List AV),
                                                                                    seg c27 5 5 = some [AV.int IntKind.i64 i113, AV.int IntKind.i64 i114, AV.str s115, AV.sl false n116 c117, AV.sl false n118 c119] ∧
                                                                                      ∃ (i120 : Int),
                                                                                        ∃ (i121 : Int),
                                                                                          ∃ (s122 : List UInt8),
                                                                                            ∃ (n123 : Nat),
                                                                                              ∃ (c124 : List AV),
                                                                                                ∃ (n125 : Nat),
                                                                                                  ∃ (c126 : List AV),
                                                                                                    PC Tryz.prog cfg 75
                                                                                                        [AV.sl true 3
                                                                                                            [AV.int IntKind.i64 i99, AV.int IntKind.i64 i100, AV.str s101, AV.sl false n102 c103, AV.sl false n104 c105,
                                                                                                              AV.int IntKind.i64 i106, AV.int IntKind.i64 i107, AV.str s108, AV.sl false n109 c110, AV.sl false n111 c112,
                                                                                                              AV.int IntKind.i64 i113, AV.int IntKind.i64 i114, AV.str s115, AV.sl false n116 c117, AV.sl false n118 c119]]
                                                                                                        (AV.agg [AV.int IntKind.i64 i120, AV.int IntKind.i64 i121, AV.str s122, AV.sl false n123 c124, AV.sl false n125 c126]) ∧
                                                                                                      ((0 : Int) ≤ i1 ∧ i1 < (38 : Int)) ∧
                                                                                                        ∃ (s127 : List UInt8),
                                                                                                          seg (gT cfg 0) (0 + Int.toNat i1 * 2 + 0) 1 = some [AV.str s127] ∧
                                                                                                            ∃ (v128 : AV),
                                                                                                              eraseW false (resH h 8)
                                                                                                                    (AV.agg
                                                                                                                      [AV.int IntKind.i64 5, AV.int IntKind.i64 0, AV.str [], AV.tk 0 0 [],
                                                                                                                        AV.sl true 1
                                                                                                                          [AV.str s127, AV.int IntKind.i64 i120, AV.int IntKind.i64 i121, AV.str s122, AV.sl false n123 c124,
                                                                                                                            AV.sl false n125 c126]]) =
                                                                                                                  some v128 ∧
                                                                                                                Q v128
                                else
                                  bif i1 == (33 : Int) then
                                    ((0 : Int) ≤ (0 : Int) ∧ (0 : Int) < (↑n26 : Int)) ∧
                                      ∃ (i129 : Int),
                                        ∃ (i130 : Int),
                                          ∃ (s131 : List UInt8),
                                            ∃ (n132 : Nat),
                                              ∃ (c133 : List AV),
                                                ∃ (n134 : Nat),
                                                  ∃ (c135 : List AV),
                                                    seg c27 0 5 = some [AV.int IntKind.i64 i129, AV.int IntKind.i64 i130, AV.str s131, AV.sl false n132 c133, AV.sl false n134 c135] ∧
                                                      ∃ (i136 : Int),
                                                        ∃ (i137 : Int),
                                                          ∃ (s138 : List UInt8),
                                                            ∃ (n139 : Nat),
                                                              ∃ (c140 : List AV),
                                                                ∃ (n141 : Nat),
                                                                  ∃ (c142 : List AV),
                                                                    PC Tryz.prog cfg 76 [AV.str s4] (AV.agg [AV.int IntKind.i64 i136, AV.int IntKind.i64 i137, AV.str s138, AV.sl false n139 c140, AV.sl false n141 c142]) ∧
                                                                      ((0 : Int) ≤ (1 : Int) ∧ (1 : Int) < (↑n26 : Int)) ∧
                                                                        ∃ (i143 : Int),
                                                                          ∃ (i144 : Int),
                                                                            ∃ (s145 : List UInt8),
                                                                              ∃ (n146 : Nat),
                                                                                ∃ (c147 : List AV),
                                                                                  ∃ (n148 : Nat),
                                                                                    ∃ (c149 : List AV),
                                                                                      seg c27 5 5 =
                                                                                          some [AV.int IntKind.i64 i143, AV.int IntKind.i64 i144, AV.str s145, AV.sl false n146 c147, AV.sl false n148 c149] ∧
                                                                                        ∃ (i150 : Int),
                                                                                          ∃ (i151 : Int),
                                                                                            ∃ (s152 : List UInt8),
                                                                                              ∃ (n153 : Nat),
                                                                                                ∃ (c154 : List AV),
                                                                                                  ∃ (n155 : Nat),
                                                                                                    ∃ (c156 : List AV),
                                                                                                      PC Tryz.prog cfg 75
                                                                                                          [AV.sl true 3
                                                                                                              [AV.int IntKind.i64 i129, AV.int IntKind.i64 i130, AV.str s131, AV.sl false n132 c133, AV.sl false n134 c135,
                                                                                                                AV.int IntKind.i64 i136, AV.int IntKind.i64 i137, AV.str s138, AV.sl false n139 c140, AV.sl false n141 c142,
                                                                                                                AV.int IntKind.i64 i143, AV.int IntKind.i64 i144, AV.str s145, AV.sl false n146 c147, AV.sl false n148 c149]]
                                                                                                          (AV.agg [AV.int IntKind.i64 i150, AV.int IntKind.i64 i151, AV.str s152, AV.sl false n153 c154, AV.sl false n155 c156]) ∧
                                                                                                        ((0 : Int) ≤ i1 ∧ i1 < (38 : Int)) ∧
                                                                                                          ∃ (s157 : List UInt8),
                                                                                                            seg (gT cfg 0) (0 + Int.toNat i1 * 2 + 0) 1 = some [AV.str s157] ∧
                                                                                                              ∃ (v158 : AV),
                                                                                                                eraseW false (resH h 8)
                                                                                                                      (AV.agg
                                                                                                                        [AV.int IntKind.i64 5, AV.int IntKind.i64 0, AV.str [], AV.tk 0 0 [],
                                                                                                                          AV.sl true 1
                                                                                                                            [AV.str s157, AV.int IntKind.i64 i150, AV.int IntKind.i64 i151, AV.str s152, AV.sl false n153 c154,
                                                                                                                              AV.sl false n155 c156]]) =
                                                                                                                    some v158 ∧
                                                                                                                  Q v158
                                  else
                                    ((0 : Int) ≤ i1 ∧ i1 < (38 : Int)) ∧
                                      ∃ (i159 : Int),
                                        seg (gT cfg 0) (0 + Int.toNat i1 * 2 + 1) 1 = some [AV.int IntKind.i64 i159] ∧
                                          bif i159 == (2 : Int) then
                                            ((0 : Int) ≤ (0 : Int) ∧ (0 : Int) < (↑n26 : Int)) ∧
                                              ∃ (i160 : Int),
                                                ∃ (i161 : Int),
                                                  ∃ (s162 : List UInt8),
                                                    ∃ (n163 : Nat),
                                                      ∃ (c164 : List AV),
                                                        ∃ (n165 : Nat),
                                                          ∃ (c166 : List AV),
                                                            seg c27 0 5 = some [AV.int IntKind.i64 i160, AV.int IntKind.i64 i161, AV.str s162, AV.sl false n163 c164, AV.sl false n165 c166] ∧
                                                              ((0 : Int) ≤ i1 ∧ i1 < (38 : Int)) ∧
                                                                ∃ (s167 : List UInt8),
                                                                  seg (gT cfg 0) (0 + Int.toNat i1 * 2 + 0) 1 = some [AV.str s167] ∧
                                                                    ∃ (v168 : AV),
                                                                      eraseW false (resH h 8)
                                                                            (AV.agg
                                                                              [AV.int IntKind.i64 5, AV.int IntKind.i64 0, AV.str [], AV.tk 0 0 [],
                                                                                AV.sl true 1 [AV.str s167, AV.int IntKind.i64 i160, AV.int IntKind.i64 i161, AV.str s162, AV.sl false n163 c164, AV.sl false n165 c166]]) =
                                                                          some v168 ∧
                                                                        Q v168
                                          else
                                            ((0 : Int) ≤ i1 ∧ i1 < (38 : Int)) ∧
                                              ∃ (s169 : List UInt8),
                                                seg (gT cfg 0) (0 + Int.toNat i1 * 2 + 0) 1 = some [AV.str s169] ∧
                                                  ∃ (v170 : AV),
                                                    eraseW false (resH h 8)
                                                          (AV.agg
                                                            [AV.int IntKind.i64 5, AV.int IntKind.i64 0, AV.str [], AV.tk 0 0 [],
                                                              AV.sl true 1 [AV.str s169, AV.int IntKind.i64 i58, AV.int IntKind.i64 i59, AV.str s60, AV.sl false n61 c62, AV.sl false n63 c64]]) =
                                                        some v170 ∧
                                                      Q v170 := by intros; kernel_rfl

theorem l48_25 : ∀ (i1 i2 : Int) (s3 : List UInt8) (id6 n4 : Nat) (c5 : List AV) (id9 n7 : Nat) (c8 : List AV) (id12 n10 : Nat) (c11 : List AV) (i13 i14 : Int) (s15 : List UInt8) (id18 n16 : Nat) (c17 : List AV) (id21 n19 : Nat) (c20 : List AV)
  (n22 : Nat) (c23 : List AV) (i24 i25 : Int) (h : Heap) (Q : AV → Prop),
  LabelB Tryz.prog cfg { ptr := false, sl := 0 } 48 25
      [AV.box [AV.int IntKind.i64 i1, AV.int IntKind.i64 i2, AV.str s3, AV.tk id6 n4 c5, AV.tk id9 n7 c8], AV.tk id12 n10 c11,
        AV.box [AV.int IntKind.i64 i13, AV.int IntKind.i64 i14, AV.str s15, AV.tk id18 n16 c17, AV.tk id21 n19 c20], AV.sl false n22 c23, AV.int IntKind.i64 i24, AV.int IntKind.i64 i25]
      h (retE Q) =
    bif decide (i25 < i24) then
      ((0 : Int) ≤ i25 ∧ i25 < (↑n22 : Int)) ∧
        ∃ (s26 : List UInt8),
          seg c23 (Int.toNat i25 * 1) 1 = some [AV.str s26] ∧
            ((0 : Int) ≤ i25 ∧ i25 < (↑n10 : Int)) ∧
              ∃ (i27 : Int),
                ∃ (i28 : Int),
                  ∃ (s29 : List UInt8),
                    ∃ (n30 : Nat),
                      ∃ (c31 : List AV),
                        ∃ (n32 : Nat),
                          ∃ (c33 : List AV),
                            seg c11 (Int.toNat i25 * 5) 5 = some [AV.int IntKind.i64 i27, AV.int IntKind.i64 i28, AV.str s29, AV.sl false n30 c31, AV.sl false n32 c33] ∧
                              ∃ (h34 : Heap),
                                ∃ (n35 : Nat),
                                  AppT Tryz.prog #[24, 24] h id21 n19 c20 (AV.sl true 1 [AV.str s26, AV.int IntKind.i64 i27, AV.int IntKind.i64 i28, AV.str s29, AV.sl false n30 c31, AV.sl false n32 c33])
                                      1 [AV.str s26, AV.int IntKind.i64 i27, AV.int IntKind.i64 i28, AV.str s29, AV.sl false n30 c31, AV.sl false n32 c33] h34 n35 ∧
                                    LabelP Tryz.prog cfg { ptr := false, sl := 0 } 48 25
                                      [AV.box [AV.int IntKind.i64 i1, AV.int IntKind.i64 i2, AV.str s3, AV.tk id6 n4 c5, AV.tk id9 n7 c8], AV.tk id12 n10 c11,
                                        AV.box
                                          [AV.int IntKind.i64 i13, AV.int IntKind.i64 i14, AV.str s15, AV.tk id18 n16 c17,
                                            AV.tk n35 (n19 + 1) (c20 ++ [AV.str s26, AV.int IntKind.i64 i27, AV.int IntKind.i64 i28, AV.str s29, AV.sl false n30 c31, AV.sl false n32 c33])],
                                        AV.sl false n22 c23, AV.int IntKind.i64 i24, AV.int IntKind.i64 (IntKind.wrap IntKind.i64 (i25 + (1 : Int)))]
                                      h34 (retE Q)
    else ∃ (v36 : AV), eraseW false (resH h 8) (AV.agg [AV.int IntKind.i64 i13, AV.int IntKind.i64 i14, AV.str s15, AV.tk id18 n16 c17, AV.tk id21 n19 c20]) = some v36 ∧ Q v36 := by intros; kernel_rfl

theorem n49 : ∀ (i1 i2 : Int) (s3 : List UInt8) (n4 : Nat) (c5 : List AV) (n6 : Nat) (c7 : List AV) (i8 : Int) (id9 o10 : Nat) (h : Heap) (Q : AV → Heap → Prop),
  BodyP Tryz.prog cfg { ptr := true, sl := 0 } 49 [AV.agg [AV.int IntKind.i64 i1, AV.int IntKind.i64 i2, AV.str s3, AV.sl false n4 c5, AV.sl false n6 c7], AV.int IntKind.i64 i8, AV.ptr id9 o10] h Q =
    ∃ (i11 : Int),
      readP Env.empty h (AV.ptr id9 o10) 1 = some [AV.int IntKind.i64 i11] ∧
        ∃ (h12 : Heap),
          aStore Tryz.prog Env.empty h 3 (AV.ptr id9 o10) (AV.int IntKind.i64 (IntKind.wrap IntKind.i64 (i11 + (1 : Int)))) = some (Eff.heap h12 AV.undef) ∧
            ∃ (i13 : Int),
              ((!decide (i8 > (16 : Int)) && true) = true → readP Env.empty h12 (AV.ptr id9 o10) 1 = some [AV.int IntKind.i64 i13]) ∧
                bif bif decide (i8 > (16 : Int)) then true else decide (i13 > (1024 : Int)) then Q (AV.bool false) h12
                else
                  LabelP Tryz.prog cfg { ptr := true, sl := 0 } 49 5
                    [AV.int IntKind.i64 i8, AV.ptr id9 o10, AV.box [AV.int IntKind.i64 i1, AV.int IntKind.i64 i2, AV.str s3, AV.sl false n4 c5, AV.sl false n6 c7], AV.sl false n4 c5, AV.int IntKind.i64 (↑n4 : Int),
                      AV.int IntKind.i64 0]
                    h12 Q := by intros; kernel_rfl

theorem l49_5 : ∀ (i1 : Int) (id2 o3 : Nat) (i4 i5 : Int) (s6 : List UInt8) (n7 : Nat) (c8 : List AV) (n9 : Nat) (c10 : List AV) (n11 : Nat) (c12 : List AV) (i13 i14 : Int) (h : Heap) (Q : AV → Heap → Prop),
  LabelB Tryz.prog cfg { ptr := true, sl := 0 } 49 5
      [AV.int IntKind.i64 i1, AV.ptr id2 o3, AV.box [AV.int IntKind.i64 i4, AV.int IntKind.i64 i5, AV.str s6, AV.sl false n7 c8, AV.sl false n9 c10], AV.sl false n11 c12, AV.int IntKind.i64 i13, AV.int IntKind.i64 i14] h Q =
    bif decide (i14 < i13) then
      ((0 : Int) ≤ i14 ∧ i14 < (↑n11 : Int)) ∧
        ∃ (i15 : Int),
          ∃ (i16 : Int),
            ∃ (s17 : List UInt8),
              ∃ (n18 : Nat),
                ∃ (c19 : List AV),
                  ∃ (n20 : Nat),
                    ∃ (c21 : List AV),
                      seg c12 (Int.toNat i14 * 5) 5 = some [AV.int IntKind.i64 i15, AV.int IntKind.i64 i16, AV.str s17, AV.sl false n18 c19, AV.sl false n20 c21] ∧
                        ∃ (b22 : Bool),
                          ∃ (h23 : Heap),
                            Call Tryz.prog cfg 49
                                [AV.agg [AV.int IntKind.i64 i15, AV.int IntKind.i64 i16, AV.str s17, AV.sl false n18 c19, AV.sl false n20 c21], AV.int IntKind.i64 (IntKind.wrap IntKind.i64 (i1 + (1 : Int))), AV.ptr id2 o3] h
                                (AV.bool b22) h23 ∧
                              bif !b22 then Q (AV.bool false) h23
                              else
                                LabelP Tryz.prog cfg { ptr := true, sl := 0 } 49 5
                                  [AV.int IntKind.i64 i1, AV.ptr id2 o3, AV.box [AV.int IntKind.i64 i4, AV.int IntKind.i64 i5, AV.str s6, AV.sl false n7 c8, AV.sl false n9 c10], AV.sl false n11 c12, AV.int IntKind.i64 i13,
                                    AV.int IntKind.i64 (IntKind.wrap IntKind.i64 (i14 + (1 : Int)))]
                                  h23 Q
    else LabelP Tryz.prog cfg { ptr := true, sl := 0 } 49 11 [AV.int IntKind.i64 i1, AV.ptr id2 o3, AV.sl false n9 c10, AV.int IntKind.i64 (↑n9 : Int), AV.int IntKind.i64 0] h Q := by intros; kernel_rfl

theorem l49_11 : ∀ (i1 : Int) (id2 o3 n4 : Nat) (c5 : List AV) (i6 i7 : Int) (h : Heap) (Q : AV → Heap → Prop),
  LabelB Tryz.prog cfg { ptr := true, sl := 0 } 49 11 [AV.int IntKind.i64 i1, AV.ptr id2 o3, AV.sl false n4 c5, AV.int IntKind.i64 i6, AV.int IntKind.i64 i7] h Q =
    bif decide (i7 < i6) then
      ((0 : Int) ≤ i7 ∧ i7 < (↑n4 : Int)) ∧
        ∃ (s8 : List UInt8),
          ∃ (i9 : Int),
            ∃ (i10 : Int),
              ∃ (s11 : List UInt8),
                ∃ (n12 : Nat),
                  ∃ (c13 : List AV),
                    ∃ (n14 : Nat),
                      ∃ (c15 : List AV),
                        seg c5 (Int.toNat i7 * 6) 6 = some [AV.str s8, AV.int IntKind.i64 i9, AV.int IntKind.i64 i10, AV.str s11, AV.sl false n12 c13, AV.sl false n14 c15] ∧
                          ∃ (b16 : Bool),
                            ∃ (h17 : Heap),
                              Call Tryz.prog cfg 49
                                  [AV.agg [AV.int IntKind.i64 i9, AV.int IntKind.i64 i10, AV.str s11, AV.sl false n12 c13, AV.sl false n14 c15], AV.int IntKind.i64 (IntKind.wrap IntKind.i64 (i1 + (1 : Int))), AV.ptr id2 o3] h
                                  (AV.bool b16) h17 ∧
                                bif !b16 then Q (AV.bool false) h17
                                else
                                  LabelP Tryz.prog cfg { ptr := true, sl := 0 } 49 11
                                    [AV.int IntKind.i64 i1, AV.ptr id2 o3, AV.sl false n4 c5, AV.int IntKind.i64 i6, AV.int IntKind.i64 (IntKind.wrap IntKind.i64 (i7 + (1 : Int)))] h17 Q
    else Q (AV.bool true) h := by intros; kernel_rfl

theorem n45 : ∀ (i1 i2 : Int) (s3 : List UInt8) (n4 : Nat) (c5 : List AV) (n6 : Nat) (c7 : List AV) (Q : AV → Prop),
  BodyP Tryz.prog cfg { ptr := true, sl := 2 } 45 [AV.agg [AV.int IntKind.i64 i1, AV.int IntKind.i64 i2, AV.str s3, AV.sl false n4 c5, AV.sl false n6 c7]] [] (retE Q) =
    ∃ (n8 : Nat),
      ∃ (n9 : Nat),
        ∃ (n10 : Nat),
          ∃ (n11 : Nat),
            ∃ (h12 : Heap),
              Call Tryz.prog cfg 67 [AV.sl false n4 c5] [] (AV.ms n8 n9 n10 n11) h12 ∧
                LabelP Tryz.prog cfg { ptr := true, sl := 2 } 45 3
                  [AV.box [AV.int IntKind.i64 i1, AV.int IntKind.i64 i2, AV.str s3, AV.ms n8 n9 n10 n11, AV.sl false n6 c7],
                    AV.box [AV.int IntKind.i64 0, AV.int IntKind.i64 0, AV.str [], AV.tk 0 0 [], AV.tk 0 0 []], AV.int IntKind.i64 (↑n10 : Int), AV.int IntKind.i64 0]
                  h12 (retE Q) := by intros; kernel_rfl

theorem l45_3 : ∀ (i1 i2 : Int) (s3 : List UInt8) (id6 o7 n4 w8 n9 : Nat) (c10 : List AV) (i11 i12 : Int) (s13 : List UInt8) (id16 n14 : Nat) (c15 : List AV) (id19 n17 : Nat) (c18 : List AV) (i20 i21 : Int) (h : Heap) (Q : AV → Prop),
  LabelB Tryz.prog cfg { ptr := true, sl := 2 } 45 3
      [AV.box [AV.int IntKind.i64 i1, AV.int IntKind.i64 i2, AV.str s3, AV.ms id6 o7 n4 w8, AV.sl false n9 c10], AV.box [AV.int IntKind.i64 i11, AV.int IntKind.i64 i12, AV.str s13, AV.tk id16 n14 c15, AV.tk id19 n17 c18],
        AV.int IntKind.i64 i20, AV.int IntKind.i64 i21]
      h (retE Q) =
    bif decide (i21 < i20) then
      ((0 : Int) ≤ i21 ∧ i21 < (↑n4 : Int) ∧ 0 < w8) ∧
        ∃ (i22 : Int),
          ∃ (i23 : Int),
            ∃ (s24 : List UInt8),
              ∃ (n25 : Nat),
                ∃ (c26 : List AV),
                  ∃ (n27 : Nat),
                    ∃ (c28 : List AV),
                      readP Env.empty h (AV.ptr id6 (o7 + Int.toNat i21 * 5)) 5 = some [AV.int IntKind.i64 i22, AV.int IntKind.i64 i23, AV.str s24, AV.sl false n25 c26, AV.sl false n27 c28] ∧
                        ∃ (i29 : Int),
                          ∃ (i30 : Int),
                            ∃ (s31 : List UInt8),
                              ∃ (n32 : Nat),
                                ∃ (c33 : List AV),
                                  ∃ (n34 : Nat),
                                    ∃ (c35 : List AV),
                                      PC Tryz.prog cfg 45 [AV.agg [AV.int IntKind.i64 i22, AV.int IntKind.i64 i23, AV.str s24, AV.sl false n25 c26, AV.sl false n27 c28]]
                                          (AV.agg [AV.int IntKind.i64 i29, AV.int IntKind.i64 i30, AV.str s31, AV.sl false n32 c33, AV.sl false n34 c35]) ∧
                                        ((0 : Int) ≤ i21 ∧ i21 < (↑n4 : Int) ∧ 0 < w8) ∧
                                          ∃ (h36 : Heap),
                                            aStore Tryz.prog Env.empty h 26 (AV.ptr id6 (o7 + Int.toNat i21 * 5))
                                                  (AV.agg [AV.int IntKind.i64 i29, AV.int IntKind.i64 i30, AV.str s31, AV.sl false n32 c33, AV.sl false n34 c35]) =
                                                some (Eff.heap h36 AV.undef) ∧
                                              LabelP Tryz.prog cfg { ptr := true, sl := 2 } 45 3
                                                [AV.box [AV.int IntKind.i64 i1, AV.int IntKind.i64 i2, AV.str s3, AV.ms id6 o7 n4 w8, AV.sl false n9 c10],
                                                  AV.box [AV.int IntKind.i64 i11, AV.int IntKind.i64 i12, AV.str s13, AV.tk id16 n14 c15, AV.tk id19 n17 c18], AV.int IntKind.i64 i20,
                                                  AV.int IntKind.i64 (IntKind.wrap IntKind.i64 (i21 + (1 : Int)))]
                                                h36 (retE Q)
    else
      ∃ (n37 : Nat),
        ∃ (n38 : Nat),
          ∃ (n39 : Nat),
            ∃ (n40 : Nat),
              ∃ (h41 : Heap),
                Call Tryz.prog cfg 68 [AV.sl false n9 c10] h (AV.ms n37 n38 n39 n40) h41 ∧
                  LabelP Tryz.prog cfg { ptr := true, sl := 2 } 45 9
                    [AV.box [AV.int IntKind.i64 i1, AV.int IntKind.i64 i2, AV.str s3, AV.ms id6 o7 n4 w8, AV.ms n37 n38 n39 n40],
                      AV.box [AV.int IntKind.i64 i11, AV.int IntKind.i64 i12, AV.str s13, AV.tk id16 n14 c15, AV.tk id19 n17 c18], AV.int IntKind.i64 (↑n39 : Int), AV.int IntKind.i64 0]
                    h41 (retE Q) := by intros; kernel_rfl

theorem l45_9 : ∀ (i1 i2 : Int) (s3 : List UInt8) (id6 o7 n4 w8 id11 o12 n9 w13 : Nat) (i14 i15 : Int) (s16 : List UInt8) (id19 n17 : Nat) (c18 : List AV) (id22 n20 : Nat) (c21 : List AV) (i23 i24 : Int) (h : Heap) (Q : AV → Prop),
  LabelB Tryz.prog cfg { ptr := true, sl := 2 } 45 9
      [AV.box [AV.int IntKind.i64 i1, AV.int IntKind.i64 i2, AV.str s3, AV.ms id6 o7 n4 w8, AV.ms id11 o12 n9 w13], AV.box [AV.int IntKind.i64 i14, AV.int IntKind.i64 i15, AV.str s16, AV.tk id19 n17 c18, AV.tk id22 n20 c21],
        AV.int IntKind.i64 i23, AV.int IntKind.i64 i24]
      h (retE Q) =
    bif decide (i24 < i23) then
      ((0 : Int) ≤ i24 ∧ i24 < (↑n9 : Int) ∧ 0 < w13) ∧
        ∃ (i25 : Int),
          ∃ (i26 : Int),
            ∃ (s27 : List UInt8),
              ∃ (n28 : Nat),
                ∃ (c29 : List AV),
                  ∃ (n30 : Nat),
                    ∃ (c31 : List AV),
                      readP Env.empty h (AV.ptr id11 (o12 + Int.toNat i24 * 6 + 1)) 5 = some [AV.int IntKind.i64 i25, AV.int IntKind.i64 i26, AV.str s27, AV.sl false n28 c29, AV.sl false n30 c31] ∧
                        ∃ (i32 : Int),
                          ∃ (i33 : Int),
                            ∃ (s34 : List UInt8),
                              ∃ (n35 : Nat),
                                ∃ (c36 : List AV),
                                  ∃ (n37 : Nat),
                                    ∃ (c38 : List AV),
                                      PC Tryz.prog cfg 45 [AV.agg [AV.int IntKind.i64 i25, AV.int IntKind.i64 i26, AV.str s27, AV.sl false n28 c29, AV.sl false n30 c31]]
                                          (AV.agg [AV.int IntKind.i64 i32, AV.int IntKind.i64 i33, AV.str s34, AV.sl false n35 c36, AV.sl false n37 c38]) ∧
                                        ((0 : Int) ≤ i24 ∧ i24 < (↑n9 : Int) ∧ 0 < w13) ∧
                                          ∃ (h39 : Heap),
                                            aStore Tryz.prog Env.empty h 26 (AV.ptr id11 (o12 + Int.toNat i24 * 6 + 1))
                                                  (AV.agg [AV.int IntKind.i64 i32, AV.int IntKind.i64 i33, AV.str s34, AV.sl false n35 c36, AV.sl false n37 c38]) =
                                                some (Eff.heap h39 AV.undef) ∧
                                              LabelP Tryz.prog cfg { ptr := true, sl := 2 } 45 9
                                                [AV.box [AV.int IntKind.i64 i1, AV.int IntKind.i64 i2, AV.str s3, AV.ms id6 o7 n4 w8, AV.ms id11 o12 n9 w13],
                                                  AV.box [AV.int IntKind.i64 i14, AV.int IntKind.i64 i15, AV.str s16, AV.tk id19 n17 c18, AV.tk id22 n20 c21], AV.int IntKind.i64 i23,
                                                  AV.int IntKind.i64 (IntKind.wrap IntKind.i64 (i24 + (1 : Int)))]
                                                h39 (retE Q)
    else ∃ (v40 : AV), eraseW false (resH h 8) (AV.agg [AV.int IntKind.i64 i1, AV.int IntKind.i64 i2, AV.str s3, AV.ms id6 o7 n4 w8, AV.ms id11 o12 n9 w13]) = some v40 ∧ Q v40 := by intros; kernel_rfl

theorem n75 : ∀ (n1 : Nat) (c2 : List AV) (Q : AV → Prop),
  BodyP Tryz.prog cfg { ptr := false, sl := 0 } 75 [AV.sl false n1 c2] [] (retE Q) =
    ∃ (v3 : AV), eraseW false (resH [] 8) (AV.agg [AV.int IntKind.i64 6, AV.int IntKind.i64 0, AV.str [], AV.sl false n1 c2, AV.tk 0 0 []]) = some v3 ∧ Q v3 := by intros; kernel_rfl

theorem n76 : ∀ (s1 : List UInt8) (Q : AV → Prop),
  BodyP Tryz.prog cfg { ptr := false, sl := 0 } 76 [AV.str s1] [] (retE Q) =
    ∃ (v2 : AV), some (AV.agg [AV.int IntKind.i64 4, AV.int IntKind.i64 0, AV.str s1, AV.sl false 0 [], AV.sl false 0 []]) = some v2 ∧ Q v2 := by intros; kernel_rfl

theorem n36 : ∀ (n1 : Nat) (c2 : List AV) (Q : AV → Prop),
  BodyP Tryz.prog cfg { ptr := false, sl := 0 } 36 [AV.sl false n1 c2] [] (retE Q) = ∃ (s3 : List UInt8), PC Tryz.prog cfg 58 [AV.sl false n1 c2, AV.str [46]] (AV.str s3) ∧ Q (AV.str s3) := by intros; kernel_rfl

theorem n63 : ∀ (s1 s2 : List UInt8) (Q : AV → Prop),
  BodyP Tryz.prog cfg { ptr := false, sl := 0 } 63 [AV.str s1, AV.str s2] [] (retE Q) = ∃ (b3 : Bool), PC Tryz.prog cfg 108 [AV.str s1, AV.str s2] (AV.bool b3) ∧ Q (AV.bool b3) := by intros; kernel_rfl

theorem n108 : ∀ (s1 s2 : List UInt8) (Q : AV → Prop),
  BodyP Tryz.prog cfg { ptr := false, sl := 0 } 108 [AV.str s1, AV.str s2] [] (retE Q) =
    (((decide ((↑(List.length s1) : Int) ≥ (↑(List.length s2) : Int)) && true) = true → ((0 : Int) ≤ (↑(List.length s2) : Int) ∧ (↑(List.length s2) : Int) ≤ (↑(List.length s1) : Int)) ∧ True) ∧
      Q (AV.bool (bif decide ((↑(List.length s1) : Int) ≥ (↑(List.length s2) : Int)) then List.take (Int.toNat (↑(List.length s2) : Int) - 0) (List.drop 0 s1) == s2 else false))) := by intros; kernel_rfl

theorem n21 : ∀ (i1 : Int) (n2 : Nat) (c3 : List AV) (s4 : List UInt8) (n5 : Nat) (c6 : List AV) (i7 i8 : Int) (s9 : List UInt8) (n10 : Nat) (c11 : List AV) (n12 : Nat) (c13 : List AV) (i14 : Int) (n15 : Nat) (c16 : List AV) (Q : AV → Prop),
  BodyP Tryz.prog cfg { ptr := false, sl := 0 } 21
      [AV.agg
          [AV.int IntKind.i64 i1, AV.sl false n2 c3, AV.str s4, AV.sl false n5 c6, AV.int IntKind.i64 i7, AV.int IntKind.i64 i8, AV.str s9, AV.sl false n10 c11, AV.sl false n12 c13, AV.int IntKind.i64 i14, AV.sl false n15 c16]]
      [] (retE Q) =
    ∃ (i17 : Int),
      PC Tryz.prog cfg 12
          [AV.agg
              [AV.int IntKind.i64 i1, AV.sl false n2 c3, AV.str s4, AV.sl false n5 c6, AV.int IntKind.i64 i7, AV.int IntKind.i64 i8, AV.str s9, AV.sl false n10 c11, AV.sl false n12 c13, AV.int IntKind.i64 i14,
                AV.sl false n15 c16]]
          (AV.int IntKind.i64 i17) ∧
        bif i17 != (0 : Int) then
          ∃ (v18 : AV), some (AV.tup [AV.agg [AV.int IntKind.i64 0, AV.int IntKind.i64 0, AV.str [], AV.sl false 0 [], AV.sl false 0 []], AV.int IntKind.i64 i17]) = some v18 ∧ Q v18
        else
          ∃ (i19 : Int),
            ∃ (i20 : Int),
              ∃ (s21 : List UInt8),
                ∃ (n22 : Nat),
                  ∃ (c23 : List AV),
                    ∃ (n24 : Nat),
                      ∃ (c25 : List AV),
                        PC Tryz.prog cfg 50
                            [AV.agg
                                [AV.int IntKind.i64 i1, AV.sl false n2 c3, AV.str s4, AV.sl false n5 c6, AV.int IntKind.i64 i7, AV.int IntKind.i64 i8, AV.str s9, AV.sl false n10 c11, AV.sl false n12 c13, AV.int IntKind.i64 i14,
                                  AV.sl false n15 c16]]
                            (AV.agg [AV.int IntKind.i64 i19, AV.int IntKind.i64 i20, AV.str s21, AV.sl false n22 c23, AV.sl false n24 c25]) ∧
                          ∃ (b26 : Bool),
                            PC Tryz.prog cfg 46 [AV.agg [AV.int IntKind.i64 i19, AV.int IntKind.i64 i20, AV.str s21, AV.sl false n22 c23, AV.sl false n24 c25]] (AV.bool b26) ∧
                              bif !b26 then
                                ∃ (v27 : AV),
                                  some (AV.tup [AV.agg [AV.int IntKind.i64 0, AV.int IntKind.i64 0, AV.str [], AV.sl false 0 [], AV.sl false 0 []], AV.int IntKind.i64 2]) = some v27 ∧ Q v27
                              else
                                ∃ (v28 : AV),
                                  eraseW false (resH [] 8) (AV.tup [AV.agg [AV.int IntKind.i64 i19, AV.int IntKind.i64 i20, AV.str s21, AV.sl false n22 c23, AV.sl false n24 c25], AV.int IntKind.i64 0]) = some v28 ∧
                                    Q v28 := by intros; kernel_rfl

theorem n50 : ∀ (i1 : Int) (n2 : Nat) (c3 : List AV) (s4 : List UInt8) (n5 : Nat) (c6 : List AV) (i7 i8 : Int) (s9 : List UInt8) (n10 : Nat) (c11 : List AV) (n12 : Nat) (c13 : List AV) (i14 : Int) (n15 : Nat) (c16 : List AV) (Q : AV → Prop),
  BodyP Tryz.prog cfg { ptr := false, sl := 0 } 50
      [AV.agg
          [AV.int IntKind.i64 i1, AV.sl false n2 c3, AV.str s4, AV.sl false n5 c6, AV.int IntKind.i64 i7, AV.int IntKind.i64 i8, AV.str s9, AV.sl false n10 c11, AV.sl false n12 c13, AV.int IntKind.i64 i14, AV.sl false n15 c16]]
      [] (retE Q) =
    LabelP Tryz.prog cfg { ptr := false, sl := 0 } 50 3
      [AV.box
          [AV.int IntKind.i64 i1, AV.sl false n2 c3, AV.str s4, AV.sl false n5 c6, AV.int IntKind.i64 i7, AV.int IntKind.i64 i8, AV.str s9, AV.sl false n10 c11, AV.sl false n12 c13, AV.int IntKind.i64 i14, AV.sl false n15 c16],
        AV.box [AV.int IntKind.i64 0, AV.int IntKind.i64 0, AV.str [], AV.tk 0 0 [], AV.tk 0 0 []], AV.tk 0 0 [], AV.int IntKind.i64 0]
      [] (retE Q) := by intros; kernel_rfl

theorem l50_3 : ∀ (i1 : Int) (n2 : Nat) (c3 : List AV) (s4 : List UInt8) (n5 : Nat) (c6 : List AV) (i7 i8 : Int) (s9 : List UInt8) (n10 : Nat) (c11 : List AV) (n12 : Nat) (c13 : List AV) (i14 : Int) (n15 : Nat) (c16 : List AV) (i17 i18 : Int)
  (s19 : List UInt8) (id22 n20 : Nat) (c21 : List AV) (id25 n23 : Nat) (c24 : List AV) (id28 n26 : Nat) (c27 : List AV) (i29 : Int) (h : Heap) (Q : AV → Prop),
  LabelB Tryz.prog cfg { ptr := false, sl := 0 } 50 3
      [AV.box
          [AV.int IntKind.i64 i1, AV.sl false n2 c3, AV.str s4, AV.sl false n5 c6, AV.int IntKind.i64 i7, AV.int IntKind.i64 i8, AV.str s9, AV.sl false n10 c11, AV.sl false n12 c13, AV.int IntKind.i64 i14, AV.sl false n15 c16],
        AV.box [AV.int IntKind.i64 i17, AV.int IntKind.i64 i18, AV.str s19, AV.tk id22 n20 c21, AV.tk id25 n23 c24], AV.tk id28 n26 c27, AV.int IntKind.i64 i29]
      h (retE Q) =
    bif decide (i29 < (↑n15 : Int)) then
      ((0 : Int) ≤ i29 ∧ i29 < (↑n15 : Int)) ∧
        ∃ (i30 : Int),
          ∃ (n31 : Nat),
            ∃ (c32 : List AV),
              ∃ (s33 : List UInt8),
                ∃ (n34 : Nat),
                  ∃ (c35 : List AV),
                    ∃ (i36 : Int),
                      ∃ (i37 : Int),
                        ∃ (s38 : List UInt8),
                          ∃ (n39 : Nat),
                            ∃ (c40 : List AV),
                              ∃ (n41 : Nat),
                                ∃ (c42 : List AV),
                                  ∃ (i43 : Int),
                                    ∃ (n44 : Nat),
                                      ∃ (c45 : List AV),
                                        seg c16 (Int.toNat i29 * 11) 11 =
                                            some
                                              [AV.int IntKind.i64 i30, AV.sl false n31 c32, AV.str s33, AV.sl false n34 c35, AV.int IntKind.i64 i36, AV.int IntKind.i64 i37, AV.str s38, AV.sl false n39 c40, AV.sl false n41 c42,
                                                AV.int IntKind.i64 i43, AV.sl false n44 c45] ∧
                                          ∃ (i46 : Int),
                                            ∃ (i47 : Int),
                                              ∃ (s48 : List UInt8),
                                                ∃ (n49 : Nat),
                                                  ∃ (c50 : List AV),
                                                    ∃ (n51 : Nat),
                                                      ∃ (c52 : List AV),
                                                        PC Tryz.prog cfg 50
                                                            [AV.agg
                                                                [AV.int IntKind.i64 i30, AV.sl false n31 c32, AV.str s33, AV.sl false n34 c35, AV.int IntKind.i64 i36, AV.int IntKind.i64 i37, AV.str s38, AV.sl false n39 c40,
                                                                  AV.sl false n41 c42, AV.int IntKind.i64 i43, AV.sl false n44 c45]]
                                                            (AV.agg [AV.int IntKind.i64 i46, AV.int IntKind.i64 i47, AV.str s48, AV.sl false n49 c50, AV.sl false n51 c52]) ∧
                                                          ∃ (h53 : Heap),
                                                            ∃ (n54 : Nat),
                                                              AppT Tryz.prog #[23, 23] h id28 n26 c27
                                                                  (AV.sl true 1 [AV.int IntKind.i64 i46, AV.int IntKind.i64 i47, AV.str s48, AV.sl false n49 c50, AV.sl false n51 c52]) 1
                                                                  [AV.int IntKind.i64 i46, AV.int IntKind.i64 i47, AV.str s48, AV.sl false n49 c50, AV.sl false n51 c52] h53 n54 ∧
                                                                LabelP Tryz.prog cfg { ptr := false, sl := 0 } 50 3
                                                                  [AV.box
                                                                      [AV.int IntKind.i64 i1, AV.sl false n2 c3, AV.str s4, AV.sl false n5 c6, AV.int IntKind.i64 i7, AV.int IntKind.i64 i8, AV.str s9, AV.sl false n10 c11,
                                                                        AV.sl false n12 c13, AV.int IntKind.i64 i14, AV.sl false n15 c16],
                                                                    AV.box [AV.int IntKind.i64 i17, AV.int IntKind.i64 i18, AV.str s19, AV.tk id22 n20 c21, AV.tk id25 n23 c24],
                                                                    AV.tk n54 (n26 + 1) (c27 ++ [AV.int IntKind.i64 i46, AV.int IntKind.i64 i47, AV.str s48, AV.sl false n49 c50, AV.sl false n51 c52]),
                                                                    AV.int IntKind.i64 (IntKind.wrap IntKind.i64 (i29 + (1 : Int)))]
                                                                  h53 (retE Q)
    else
      bif i1 == (1 : Int) then
        (((bif i7 == (4 : Int) then decide ((↑(List.length s9) : Int) > (0 : Int)) else false) && true) = true → (0 : Int) ≤ (0 : Int) ∧ (0 : Int) < (↑(List.length s9) : Int)) ∧
          bif
              bif
                  bif bif bif i7 == (4 : Int) then decide ((↑(List.length s9) : Int) > (0 : Int)) else false then (↑(UInt8.toNat (List.getD s9 0 0)) : Int) == (36 : Int) else false then true
                  else i7 == (6 : Int) then
                true
              else decide ((↑n12 : Int) > (0 : Int)) then
            ∃ (i55 : Int),
              ∃ (i56 : Int),
                ∃ (s57 : List UInt8),
                  ∃ (n58 : Nat),
                    ∃ (c59 : List AV),
                      ∃ (n60 : Nat),
                        ∃ (c61 : List AV),
                          PC Tryz.prog cfg 77
                              [AV.str [36, 118, 97, 108, 117, 101],
                                AV.agg [AV.int IntKind.i64 i7, AV.int IntKind.i64 i8, AV.str s9, AV.sl false n10 c11, AV.sl false n12 c13]]
                              (AV.agg [AV.int IntKind.i64 i55, AV.int IntKind.i64 i56, AV.str s57, AV.sl false n58 c59, AV.sl false n60 c61]) ∧
                            ∃ (v62 : AV), eraseW false (resH h 8) (AV.agg [AV.int IntKind.i64 i55, AV.int IntKind.i64 i56, AV.str s57, AV.sl false n58 c59, AV.sl false n60 c61]) = some v62 ∧ Q v62
          else ∃ (v63 : AV), eraseW false (resH h 8) (AV.agg [AV.int IntKind.i64 i7, AV.int IntKind.i64 i8, AV.str s9, AV.sl false n10 c11, AV.sl false n12 c13]) = some v63 ∧ Q v63
      else
        bif i1 == (2 : Int) then
          ∃ (s64 : List UInt8),
            PC Tryz.prog cfg 59 [AV.sl false n2 c3] (AV.str s64) ∧
              1 + List.length s64 ≤ 4611686018427387904 ∧
                ∃ (i65 : Int),
                  ∃ (i66 : Int),
                    ∃ (s67 : List UInt8),
                      ∃ (n68 : Nat),
                        ∃ (c69 : List AV),
                          ∃ (n70 : Nat),
                            ∃ (c71 : List AV),
                              PC Tryz.prog cfg 26 [AV.str ([36] ++ s64)] (AV.agg [AV.int IntKind.i64 i65, AV.int IntKind.i64 i66, AV.str s67, AV.sl false n68 c69, AV.sl false n70 c71]) ∧
                                ∃ (v72 : AV), eraseW false (resH h 8) (AV.agg [AV.int IntKind.i64 i65, AV.int IntKind.i64 i66, AV.str s67, AV.sl false n68 c69, AV.sl false n70 c71]) = some v72 ∧ Q v72
        else
          bif i1 == (3 : Int) then
            bif (↑n2 : Int) == (0 : Int) then
              2 + List.length s4 ≤ 4611686018427387904 ∧
                ∃ (i73 : Int),
                  ∃ (i74 : Int),
                    ∃ (s75 : List UInt8),
                      ∃ (n76 : Nat),
                        ∃ (c77 : List AV),
                          ∃ (n78 : Nat),
                            ∃ (c79 : List AV),
                              PC Tryz.prog cfg 26 [AV.str ([36, 36] ++ s4)] (AV.agg [AV.int IntKind.i64 i73, AV.int IntKind.i64 i74, AV.str s75, AV.sl false n76 c77, AV.sl false n78 c79]) ∧
                                ∃ (v80 : AV), eraseW false (resH h 8) (AV.agg [AV.int IntKind.i64 i73, AV.int IntKind.i64 i74, AV.str s75, AV.sl false n76 c77, AV.sl false n78 c79]) = some v80 ∧ Q v80
            else
              2 + List.length s4 ≤ 4611686018427387904 ∧
                List.length ([36, 36] ++ s4) + 1 ≤ 4611686018427387904 ∧
                  ∃ (s81 : List UInt8),
                    PC Tryz.prog cfg 59 [AV.sl false n2 c3] (AV.str s81) ∧
                      List.length ([36, 36] ++ s4 ++ [46]) + List.length s81 ≤ 4611686018427387904 ∧
                        ∃ (i82 : Int),
                          ∃ (i83 : Int),
                            ∃ (s84 : List UInt8),
                              ∃ (n85 : Nat),
                                ∃ (c86 : List AV),
                                  ∃ (n87 : Nat),
                                    ∃ (c88 : List AV),
                                      PC Tryz.prog cfg 26 [AV.str ([36, 36] ++ s4 ++ [46] ++ s81)]
                                          (AV.agg [AV.int IntKind.i64 i82, AV.int IntKind.i64 i83, AV.str s84, AV.sl false n85 c86, AV.sl false n87 c88]) ∧
                                        ∃ (v89 : AV), eraseW false (resH h 8) (AV.agg [AV.int IntKind.i64 i82, AV.int IntKind.i64 i83, AV.str s84, AV.sl false n85 c86, AV.sl false n87 c88]) = some v89 ∧ Q v89
          else
            bif i1 == (35 : Int) then
              ∃ (i90 : Int),
                ∃ (i91 : Int),
                  ∃ (s92 : List UInt8),
                    ∃ (n93 : Nat),
                      ∃ (c94 : List AV),
                        ∃ (n95 : Nat),
                          ∃ (c96 : List AV),
                            PC Tryz.prog cfg 25 [AV.tk id28 n26 c27] (AV.agg [AV.int IntKind.i64 i90, AV.int IntKind.i64 i91, AV.str s92, AV.sl false n93 c94, AV.sl false n95 c96]) ∧
                              ∃ (v97 : AV), eraseW false (resH h 8) (AV.agg [AV.int IntKind.i64 i90, AV.int IntKind.i64 i91, AV.str s92, AV.sl false n93 c94, AV.sl false n95 c96]) = some v97 ∧ Q v97
            else
              bif i1 == (34 : Int) then
                LabelP Tryz.prog cfg { ptr := false, sl := 0 } 50 23
                  [AV.box
                      [AV.int IntKind.i64 i1, AV.sl false n2 c3, AV.str s4, AV.sl false n5 c6, AV.int IntKind.i64 i7, AV.int IntKind.i64 i8, AV.str s9, AV.sl false n10 c11, AV.sl false n12 c13, AV.int IntKind.i64 i14,
                        AV.sl false n15 c16],
                    AV.box [AV.int IntKind.i64 i17, AV.int IntKind.i64 i18, AV.str s19, AV.tk id22 n20 c21, AV.tk id25 n23 c24], AV.tk id28 n26 c27,
                    AV.box [AV.int IntKind.i64 5, AV.int IntKind.i64 0, AV.str [], AV.tk 0 0 [], AV.tk 0 0 []], AV.int IntKind.i64 0]
                  h (retE Q)
              else
                bif i1 == (32 : Int) then
                  ∃ (s98 : List UInt8),
                    PC Tryz.prog cfg 78 [AV.int IntKind.i64 i1] (AV.str s98) ∧
                      ((0 : Int) ≤ (0 : Int) ∧ (0 : Int) < (↑n26 : Int)) ∧
                        ∃ (i99 : Int),
                          ∃ (i100 : Int),
                            ∃ (s101 : List UInt8),
                              ∃ (n102 : Nat),
                                ∃ (c103 : List AV),
                                  ∃ (n104 : Nat),
                                    ∃ (c105 : List AV),
                                      seg c27 0 5 = some [AV.int IntKind.i64 i99, AV.int IntKind.i64 i100, AV.str s101, AV.sl false n102 c103, AV.sl false n104 c105] ∧
                                        ∃ (i106 : Int),
                                          ∃ (i107 : Int),
                                            ∃ (s108 : List UInt8),
                                              ∃ (n109 : Nat),
                                                ∃ (c110 : List AV),
                                                  ∃ (n111 : Nat),
                                                    ∃ (c112 : List AV),
                                                      PC Tryz.prog cfg 26 [AV.str s4] (AV.agg [AV.int IntKind.i64 i106, AV.int IntKind.i64 i107, AV.str s108, AV.sl false n109 c110, AV.sl false n111 c112]) ∧
                                                        ((0 : Int) ≤ (1 : Int) ∧ (1 : Int) < (↑n26 : Int)) ∧
                                                          ∃ (i113 : Int),
                                                            ∃ (i114 : Int),
                                                              ∃ (s115 : List UInt8),
                                                                ∃ (n116 : Nat),
                                                                  ∃ (c117 : List AV),
                                                                    ∃ (n118 : Nat),
                                                                      ∃ (c119 : List AV),
                                                                        seg c27 5 5 = some [AV.int IntKind.i64 i113, AV.int IntKind.i64 i114, AV.str s115, AV.sl false n116 c117, AV.sl false n118 c119] ∧
                                                                          ∃ (i120 : Int),
                                                                            ∃ (i121 : Int),
                                                                              ∃ (s122 : List UInt8),
                                                                                ∃ (n123 : Nat),
                                                                                  ∃ (c124 : List AV),
                                                                                    ∃ (n125 : Nat),
                                                                                      ∃ (c126 : List AV),
                                                                                        PC Tryz.prog cfg 25
                                                                                            [AV.sl true 3
                                                                                                [AV.int IntKind.i64 i99, AV.int IntKind.i64 i100, AV.str s101, AV.sl false n102 c103, AV.sl false n104 c105, AV.int IntKind.i64 i106,
                                                                                                  AV.int IntKind.i64 i107, AV.str s108, AV.sl false n109 c110, AV.sl false n111 c112, AV.int IntKind.i64 i113,
                                                                                                  AV.int IntKind.i64 i114, AV.str s115, AV.sl false n116 c117, AV.sl false n118 c119]]
                                                                                            (AV.agg [AV.int IntKind.i64 i120, AV.int IntKind.i64 i121, AV.str s122, AV.sl false n123 c124, AV.sl false n125 c126]) ∧
                                                                                          ∃ (i127 : Int),
                                                                                            ∃ (i128 : Int),
                                                                                              ∃ (s129 : List UInt8),
                                                                                                ∃ (n130 : Nat),
                                                                                                  ∃ (c131 : List AV),
                                                                                                    ∃ (n132 : Nat),
                                                                                                      ∃ (c133 : List AV),
                                                                                                        PC Tryz.prog cfg 77
                                                                                                            [AV.str s98,
                                                                                                              AV.agg [AV.int IntKind.i64 i120, AV.int IntKind.i64 i121, AV.str s122, AV.sl false n123 c124, AV.sl false n125 c126]]
                                                                                                            (AV.agg [AV.int IntKind.i64 i127, AV.int IntKind.i64 i128, AV.str s129, AV.sl false n130 c131, AV.sl false n132 c133]) ∧
                                                                                                          ∃ (v134 : AV),
                                                                                                            eraseW false (resH h 8)
                                                                                                                  (AV.agg
                                                                                                                    [AV.int IntKind.i64 i127, AV.int IntKind.i64 i128, AV.str s129, AV.sl false n130 c131, AV.sl false n132 c133]) =
                                                                                                                some v134 ∧
                                                                                                              Q v134
                else
                  bif i1 == (33 : Int) then
                    ∃ (s135 : List UInt8),
                      PC Tryz.prog cfg 78 [AV.int IntKind.i64 i1] (AV.str s135) ∧
                        ((0 : Int) ≤ (0 : Int) ∧ (0 : Int) < (↑n26 : Int)) ∧
                          ∃ (i136 : Int),
                            ∃ (i137 : Int),
                              ∃ (s138 : List UInt8),
                                ∃ (n139 : Nat),
                                  ∃ (c140 : List AV),
                                    ∃ (n141 : Nat),
                                      ∃ (c142 : List AV),
                                        seg c27 0 5 = some [AV.int IntKind.i64 i136, AV.int IntKind.i64 i137, AV.str s138, AV.sl false n139 c140, AV.sl false n141 c142] ∧
                                          ∃ (i143 : Int),
                                            ∃ (i144 : Int),
                                              ∃ (s145 : List UInt8),
                                                ∃ (n146 : Nat),
                                                  ∃ (c147 : List AV),
                                                    ∃ (n148 : Nat),
                                                      ∃ (c149 : List AV),
                                                        PC Tryz.prog cfg 26 [AV.str s4] (AV.agg [AV.int IntKind.i64 i143, AV.int IntKind.i64 i144, AV.str s145, AV.sl false n146 c147, AV.sl false n148 c149]) ∧
                                                          ((0 : Int) ≤ (1 : Int) ∧ (1 : Int) < (↑n26 : Int)) ∧
                                                            ∃ (i150 : Int),
                                                              ∃ (i151 : Int),
                                                                ∃ (s152 : List UInt8),
                                                                  ∃ (n153 : Nat),
                                                                    ∃ (c154 : List AV),
                                                                      ∃ (n155 : Nat),
                                                                        ∃ (c156 : List AV),
                                                                          seg c27 5 5 = some [AV.int IntKind.i64 i150, AV.int IntKind.i64 i151, AV.str s152, AV.sl false n153 c154, AV.sl false n155 c156] ∧
                                                                            ∃ (i157 : Int),
                                                                              ∃ (i158 : Int),
                                                                                ∃ (s159 : List UInt8),
                                                                                  ∃ (n160 : Nat),
                                                                                    ∃ (c161 : List AV),
                                                                                      ∃ (n162 : Nat),
                                                                                        ∃ (c163 : List AV),
                                                                                          PC Tryz.prog cfg 25
                                                                                              [AV.sl true 3
                                                                                                  [AV.int IntKind.i64 i136, AV.int IntKind.i64 i137, AV.str s138, AV.sl false n139 c140, AV.sl false n141 c142,
                                                                                                    AV.int IntKind.i64 i143, AV.int IntKind.i64 i144, AV.str s145, AV.sl false n146 c147, AV.sl false n148 c149,
                                                                                                    AV.int IntKind.i64 i150, AV.int IntKind.i64 i151, AV.str s152, AV.sl false n153 c154, AV.sl false n155 c156]]
                                                                                              (AV.agg [AV.int IntKind.i64 i157, AV.int IntKind.i64 i158, AV.str s159, AV.sl false n160 c161, AV.sl false n162 c163]) ∧
                                                                                            ∃ (i164 : Int),
                                                                                              ∃ (i165 : Int),
                                                                                                ∃ (s166 : List UInt8),
                                                                                                  ∃ (n167 : Nat),
                                                                                                    ∃ (c168 : List AV),
                                                                                                      ∃ (n169 : Nat),
                                                                                                        ∃ (c170 : List AV),
                                                                                                          PC Tryz.prog cfg 77
                                                                                                              [AV.str s135,
                                                                                                                AV.agg [AV.int IntKind.i64 i157, AV.int IntKind.i64 i158, AV.str s159, AV.sl false n160 c161, AV.sl false n162 c163]]
                                                                                                              (AV.agg [AV.int IntKind.i64 i164, AV.int IntKind.i64 i165, AV.str s166, AV.sl false n167 c168, AV.sl false n169 c170]) ∧
                                                                                                            ∃ (v171 : AV),
                                                                                                              eraseW false (resH h 8)
                                                                                                                    (AV.agg
                                                                                                                      [AV.int IntKind.i64 i164, AV.int IntKind.i64 i165, AV.str s166, AV.sl false n167 c168, AV.sl false n169 c170]) =
                                                                                                                  some v171 ∧
                                                                                                                Q v171
                  else
                    ∃ (i172 : Int),
                      PC Tryz.prog cfg 79 [AV.int IntKind.i64 i1] (AV.int IntKind.i64 i172) ∧
                        bif i172 == (1 : Int) then
                          ∃ (s173 : List UInt8),
                            PC Tryz.prog cfg 78 [AV.int IntKind.i64 i1] (AV.str s173) ∧
                              ((0 : Int) ≤ (0 : Int) ∧ (0 : Int) < (↑n26 : Int)) ∧
                                ∃ (i174 : Int),
                                  ∃ (i175 : Int),
                                    ∃ (s176 : List UInt8),
                                      ∃ (n177 : Nat),
                                        ∃ (c178 : List AV),
                                          ∃ (n179 : Nat),
                                            ∃ (c180 : List AV),
                                              seg c27 0 5 = some [AV.int IntKind.i64 i174, AV.int IntKind.i64 i175, AV.str s176, AV.sl false n177 c178, AV.sl false n179 c180] ∧
                                                ∃ (i181 : Int),
                                                  ∃ (i182 : Int),
                                                    ∃ (s183 : List UInt8),
                                                      ∃ (n184 : Nat),
                                                        ∃ (c185 : List AV),
                                                          ∃ (n186 : Nat),
                                                            ∃ (c187 : List AV),
                                                              PC Tryz.prog cfg 77 [AV.str s173, AV.agg [AV.int IntKind.i64 i174, AV.int IntKind.i64 i175, AV.str s176, AV.sl false n177 c178, AV.sl false n179 c180]]
                                                                  (AV.agg [AV.int IntKind.i64 i181, AV.int IntKind.i64 i182, AV.str s183, AV.sl false n184 c185, AV.sl false n186 c187]) ∧
                                                                ∃ (v188 : AV),
                                                                  eraseW false (resH h 8) (AV.agg [AV.int IntKind.i64 i181, AV.int IntKind.i64 i182, AV.str s183, AV.sl false n184 c185, AV.sl false n186 c187]) = some v188 ∧
                                                                    Q v188
                        else
                          ∃ (s189 : List UInt8),
                            PC Tryz.prog cfg 78 [AV.int IntKind.i64 i1] (AV.str s189) ∧
                              ∃ (i190 : Int),
                                ∃ (i191 : Int),
                                  ∃ (s192 : List UInt8),
                                    ∃ (n193 : Nat),
                                      ∃ (c194 : List AV),
                                        ∃ (n195 : Nat),
                                          ∃ (c196 : List AV),
                                            PC Tryz.prog cfg 25 [AV.tk id28 n26 c27] (AV.agg [AV.int IntKind.i64 i190, AV.int IntKind.i64 i191, AV.str s192, AV.sl false n193 c194, AV.sl false n195 c196]) ∧
                                              ∃ (i197 : Int),
                                                ∃ (i198 : Int),
                                                  ∃ (s199 : List UInt8),
                                                    ∃ (n200 : Nat),
                                                      ∃ (c201 : List AV),
                                                        ∃ (n202 : Nat),
                                                          ∃ (c203 : List AV),
                                                            PC Tryz.prog cfg 77 [AV.str s189, AV.agg [AV.int IntKind.i64 i190, AV.int IntKind.i64 i191, AV.str s192, AV.sl false n193 c194, AV.sl false n195 c196]]
                                                                (AV.agg [AV.int IntKind.i64 i197, AV.int IntKind.i64 i198, AV.str s199, AV.sl false n200 c201, AV.sl false n202 c203]) ∧
                                                              ∃ (v204 : AV),
                                                                eraseW false (resH h 8) (AV.agg [AV.int IntKind.i64 i197, AV.int IntKind.i64 i198, AV.str s199, AV.sl false n200 c201, AV.sl false n202 c203]) = some v204 ∧
                                                                  Q v204 := by intros; kernel_rfl

theorem l50_23 : ∀ (i1 : Int) (n2 : Nat) (c3 : List AV) (s4 : List UInt8) (n5 : Nat) (c6 : List AV) (i7 i8 : Int) (s9 : List UInt8) (n10 : Nat) (c11 : List AV) (n12 : Nat) (c13 : List AV) (i14 : Int) (n15 : Nat) (c16 : List AV) (i17 i18 : Int)
  (s19 : List UInt8) (id22 n20 : Nat) (c21 : List AV) (id25 n23 : Nat) (c24 : List AV) (id28 n26 : Nat) (c27 : List AV) (i29 i30 : Int) (s31 : List UInt8) (id34 n32 : Nat) (c33 : List AV) (id37 n35 : Nat) (c36 : List AV)
  (i38 : Int) (h : Heap) (Q : AV → Prop),
  LabelB Tryz.prog cfg { ptr := false, sl := 0 } 50 23
      [AV.box
          [AV.int IntKind.i64 i1, AV.sl false n2 c3, AV.str s4, AV.sl false n5 c6, AV.int IntKind.i64 i7, AV.int IntKind.i64 i8, AV.str s9, AV.sl false n10 c11, AV.sl false n12 c13, AV.int IntKind.i64 i14, AV.sl false n15 c16],
        AV.box [AV.int IntKind.i64 i17, AV.int IntKind.i64 i18, AV.str s19, AV.tk id22 n20 c21, AV.tk id25 n23 c24], AV.tk id28 n26 c27,
        AV.box [AV.int IntKind.i64 i29, AV.int IntKind.i64 i30, AV.str s31, AV.tk id34 n32 c33, AV.tk id37 n35 c36], AV.int IntKind.i64 i38]
      h (retE Q) =
    bif decide (i38 < (↑n26 : Int)) then
      ((0 : Int) ≤ i38 ∧ i38 < (↑n5 : Int)) ∧
        ∃ (s39 : List UInt8),
          seg c6 (Int.toNat i38 * 1) 1 = some [AV.str s39] ∧
            ((0 : Int) ≤ i38 ∧ i38 < (↑n26 : Int)) ∧
              ∃ (i40 : Int),
                ∃ (i41 : Int),
                  ∃ (s42 : List UInt8),
                    ∃ (n43 : Nat),
                      ∃ (c44 : List AV),
                        ∃ (n45 : Nat),
                          ∃ (c46 : List AV),
                            seg c27 (Int.toNat i38 * 5) 5 = some [AV.int IntKind.i64 i40, AV.int IntKind.i64 i41, AV.str s42, AV.sl false n43 c44, AV.sl false n45 c46] ∧
                              ∃ (h47 : Heap),
                                ∃ (n48 : Nat),
                                  AppT Tryz.prog #[24, 24] h id37 n35 c36 (AV.sl true 1 [AV.str s39, AV.int IntKind.i64 i40, AV.int IntKind.i64 i41, AV.str s42, AV.sl false n43 c44, AV.sl false n45 c46])
                                      1 [AV.str s39, AV.int IntKind.i64 i40, AV.int IntKind.i64 i41, AV.str s42, AV.sl false n43 c44, AV.sl false n45 c46] h47 n48 ∧
                                    LabelP Tryz.prog cfg { ptr := false, sl := 0 } 50 23
                                      [AV.box
                                          [AV.int IntKind.i64 i1, AV.sl false n2 c3, AV.str s4, AV.sl false n5 c6, AV.int IntKind.i64 i7, AV.int IntKind.i64 i8, AV.str s9, AV.sl false n10 c11, AV.sl false n12 c13,
                                            AV.int IntKind.i64 i14, AV.sl false n15 c16],
                                        AV.box [AV.int IntKind.i64 i17, AV.int IntKind.i64 i18, AV.str s19, AV.tk id22 n20 c21, AV.tk id25 n23 c24], AV.tk id28 n26 c27,
                                        AV.box
                                          [AV.int IntKind.i64 i29, AV.int IntKind.i64 i30, AV.str s31, AV.tk id34 n32 c33,
                                            AV.tk n48 (n35 + 1) (c36 ++ [AV.str s39, AV.int IntKind.i64 i40, AV.int IntKind.i64 i41, AV.str s42, AV.sl false n43 c44, AV.sl false n45 c46])],
                                        AV.int IntKind.i64 (IntKind.wrap IntKind.i64 (i38 + (1 : Int)))]
                                      h47 (retE Q)
    else ∃ (v49 : AV), eraseW false (resH h 8) (AV.agg [AV.int IntKind.i64 i29, AV.int IntKind.i64 i30, AV.str s31, AV.tk id34 n32 c33, AV.tk id37 n35 c36]) = some v49 ∧ Q v49 := by intros; kernel_rfl

theorem n78 : ∀ (i1 : Int) (Q : AV → Prop),
  BodyP Tryz.prog cfg { ptr := false, sl := 0 } 78 [AV.int IntKind.i64 i1] [] (retE Q) =
    bif i1 == (1 : Int) then Q (AV.str [36, 118, 97, 108, 117, 101])
    else
      bif i1 == (4 : Int) then Q (AV.str [36, 97, 100, 100])
      else
        bif i1 == (5 : Int) then Q (AV.str [36, 115, 117, 98])
        else
          bif i1 == (6 : Int) then Q (AV.str [36, 109, 117, 108])
          else
            bif i1 == (7 : Int) then Q (AV.str [36, 100, 105, 118])
            else
              bif i1 == (8 : Int) then Q (AV.str [36, 109, 111, 100])
              else
                bif i1 == (9 : Int) then Q (AV.str [36, 99, 109, 112])
                else
                  bif i1 == (10 : Int) then Q (AV.str [36, 101, 113])
                  else
                    bif i1 == (11 : Int) then Q (AV.str [36, 110, 101])
                    else
                      bif i1 == (12 : Int) then Q (AV.str [36, 103, 116])
                      else
                        bif i1 == (13 : Int) then Q (AV.str [36, 103, 101])
                        else
                          bif i1 == (14 : Int) then Q (AV.str [36, 108, 116])
                          else
                            bif i1 == (15 : Int) then Q (AV.str [36, 108, 101])
                            else
                              bif i1 == (16 : Int) then Q (AV.str [36, 97, 110, 100])
                              else
                                bif i1 == (17 : Int) then Q (AV.str [36, 111, 114])
                                else
                                  bif i1 == (18 : Int) then Q (AV.str [36, 110, 111, 116])
                                  else
                                    bif i1 == (19 : Int) then Q (AV.str [36, 105, 102])
                                    else
                                      bif i1 == (20 : Int) then Q (AV.str [36, 105, 102, 78, 117, 108, 108])
                                      else
                                        bif i1 == (21 : Int) then Q (AV.str [36, 99, 111, 110, 99, 97, 116])
                                        else
                                          bif i1 == (22 : Int) then Q (AV.str [36, 108, 111, 119, 101, 114])
                                          else
                                            bif i1 == (23 : Int) then Q (AV.str [36, 117, 112, 112, 101, 114])
                                            else
                                              bif i1 == (24 : Int) then Q (AV.str [36, 108, 101, 110, 103, 116, 104])
                                              else
                                                bif i1 == (25 : Int) then Q (AV.str [36, 115, 108, 105, 99, 101])
                                                else
                                                  bif i1 == (26 : Int) then Q (AV.str [36, 115, 105, 122, 101])
                                                  else
                                                    bif i1 == (27 : Int) then Q (AV.str [36, 97, 116])
                                                    else
                                                      bif i1 == (28 : Int) then Q (AV.str [36, 105, 110])
                                                      else
                                                        bif i1 == (29 : Int) then Q (AV.str [36, 106, 111, 105, 110])
                                                        else
                                                          bif i1 == (30 : Int) then Q (AV.str [36, 114, 101, 118, 101, 114, 115, 101])
                                                          else
                                                            bif i1 == (31 : Int) then Q (AV.str [36, 115, 117, 109])
                                                            else
                                                              bif i1 == (32 : Int) then Q (AV.str [36, 109, 97, 112])
                                                              else
                                                                bif i1 == (33 : Int) then Q (AV.str [36, 102, 105, 108, 116, 101, 114])
                                                                else
                                                                  bif i1 == (36 : Int) then Q (AV.str [36, 107, 105, 110, 100])
                                                                  else bif i1 == (37 : Int) then Q (AV.str [36, 109, 101, 114, 103, 101]) else Q (AV.str []) := by intros; kernel_rfl

theorem n79 : ∀ (i1 : Int) (Q : AV → Prop),
  BodyP Tryz.prog cfg { ptr := false, sl := 0 } 79 [AV.int IntKind.i64 i1] [] (retE Q) =
    bif i1 == (1 : Int) then Q (AV.int IntKind.i64 0)
    else
      bif i1 == (2 : Int) then Q (AV.int IntKind.i64 0)
      else
        bif i1 == (3 : Int) then Q (AV.int IntKind.i64 0)
        else
          bif i1 == (18 : Int) then Q (AV.int IntKind.i64 1)
          else
            bif i1 == (22 : Int) then Q (AV.int IntKind.i64 1)
            else
              bif i1 == (23 : Int) then Q (AV.int IntKind.i64 1)
              else
                bif i1 == (24 : Int) then Q (AV.int IntKind.i64 1)
                else
                  bif i1 == (26 : Int) then Q (AV.int IntKind.i64 1)
                  else
                    bif i1 == (30 : Int) then Q (AV.int IntKind.i64 1)
                    else
                      bif i1 == (31 : Int) then Q (AV.int IntKind.i64 1)
                      else
                        bif i1 == (36 : Int) then Q (AV.int IntKind.i64 1)
                        else
                          bif i1 == (19 : Int) then Q (AV.int IntKind.i64 3)
                          else
                            bif i1 == (25 : Int) then Q (AV.int IntKind.i64 3)
                            else
                              bif i1 == (4 : Int) then Q (AV.int IntKind.i64 (-1))
                              else
                                bif i1 == (6 : Int) then Q (AV.int IntKind.i64 (-1))
                                else
                                  bif i1 == (16 : Int) then Q (AV.int IntKind.i64 (-1))
                                  else
                                    bif i1 == (17 : Int) then Q (AV.int IntKind.i64 (-1))
                                    else
                                      bif i1 == (21 : Int) then Q (AV.int IntKind.i64 (-1))
                                      else
                                        bif i1 == (29 : Int) then Q (AV.int IntKind.i64 (-1))
                                        else
                                          bif i1 == (37 : Int) then Q (AV.int IntKind.i64 (-1))
                                          else bif i1 == (35 : Int) then Q (AV.int IntKind.i64 (-1)) else bif i1 == (34 : Int) then Q (AV.int IntKind.i64 (-1)) else Q (AV.int IntKind.i64 2) := by intros; kernel_rfl

theorem n59 : ∀ (n1 : Nat) (c2 : List AV) (Q : AV → Prop),
  BodyP Tryz.prog cfg { ptr := false, sl := 0 } 59 [AV.sl false n1 c2] [] (retE Q) =
    LabelP Tryz.prog cfg { ptr := false, sl := 0 } 59 3 [AV.sl false n1 c2, AV.str [], AV.int IntKind.i64 0] [] (retE Q) := by intros; kernel_rfl

theorem l59_3 : ∀ (n1 : Nat) (c2 : List AV) (s3 : List UInt8) (i4 : Int) (h : Heap) (Q : AV → Prop),
  LabelB Tryz.prog cfg { ptr := false, sl := 0 } 59 3 [AV.sl false n1 c2, AV.str s3, AV.int IntKind.i64 i4] h (retE Q) =
    bif decide (i4 < (↑n1 : Int)) then
      bif decide (i4 > (0 : Int)) then
        List.length s3 + 1 ≤ 4611686018427387904 ∧
          ((0 : Int) ≤ i4 ∧ i4 < (↑n1 : Int)) ∧
            ∃ (s5 : List UInt8),
              seg c2 (Int.toNat i4 * 1) 1 = some [AV.str s5] ∧
                List.length (s3 ++ [46]) + List.length s5 ≤ 4611686018427387904 ∧
                  LabelP Tryz.prog cfg { ptr := false, sl := 0 } 59 3 [AV.sl false n1 c2, AV.str (s3 ++ [46] ++ s5), AV.int IntKind.i64 (IntKind.wrap IntKind.i64 (i4 + (1 : Int)))] h (retE Q)
      else
        ((0 : Int) ≤ i4 ∧ i4 < (↑n1 : Int)) ∧
          ∃ (s6 : List UInt8),
            seg c2 (Int.toNat i4 * 1) 1 = some [AV.str s6] ∧
              List.length s3 + List.length s6 ≤ 4611686018427387904 ∧
                LabelP Tryz.prog cfg { ptr := false, sl := 0 } 59 3 [AV.sl false n1 c2, AV.str (s3 ++ s6), AV.int IntKind.i64 (IntKind.wrap IntKind.i64 (i4 + (1 : Int)))] h (retE Q)
    else Q (AV.str s3) := by intros; kernel_rfl

theorem n77 : ∀ (s1 : List UInt8) (i2 i3 : Int) (s4 : List UInt8) (n5 : Nat) (c6 : List AV) (n7 : Nat) (c8 : List AV) (Q : AV → Prop),
  BodyP Tryz.prog cfg { ptr := false, sl := 0 } 77 [AV.str s1, AV.agg [AV.int IntKind.i64 i2, AV.int IntKind.i64 i3, AV.str s4, AV.sl false n5 c6, AV.sl false n7 c8]] [] (retE Q) =
    ∃ (v9 : AV),
      eraseW false (resH [] 8)
            (AV.agg
              [AV.int IntKind.i64 5, AV.int IntKind.i64 0, AV.str [], AV.tk 0 0 [],
                AV.sl true 1 [AV.str s1, AV.int IntKind.i64 i2, AV.int IntKind.i64 i3, AV.str s4, AV.sl false n5 c6, AV.sl false n7 c8]]) =
          some v9 ∧
        Q v9 := by intros; kernel_rfl

theorem n25 : ∀ (n1 : Nat) (c2 : List AV) (Q : AV → Prop),
  BodyP Tryz.prog cfg { ptr := false, sl := 0 } 25 [AV.sl false n1 c2] [] (retE Q) =
    ∃ (v3 : AV), eraseW false (resH [] 8) (AV.agg [AV.int IntKind.i64 6, AV.int IntKind.i64 0, AV.str [], AV.sl false n1 c2, AV.tk 0 0 []]) = some v3 ∧ Q v3 := by intros; kernel_rfl

theorem n26 : ∀ (s1 : List UInt8) (Q : AV → Prop),
  BodyP Tryz.prog cfg { ptr := false, sl := 0 } 26 [AV.str s1] [] (retE Q) =
    ∃ (v2 : AV), some (AV.agg [AV.int IntKind.i64 4, AV.int IntKind.i64 0, AV.str s1, AV.sl false 0 [], AV.sl false 0 []]) = some v2 ∧ Q v2 := by intros; kernel_rfl

theorem n46 : ∀ (i1 i2 : Int) (s3 : List UInt8) (n4 : Nat) (c5 : List AV) (n6 : Nat) (c7 : List AV) (Q : AV → Prop),
  BodyP Tryz.prog cfg { ptr := false, sl := 0 } 46 [AV.agg [AV.int IntKind.i64 i1, AV.int IntKind.i64 i2, AV.str s3, AV.sl false n4 c5, AV.sl false n6 c7]] [] (retE Q) =
    ∃ (i8 : Int),
      PC Tryz.prog cfg 69 [AV.agg [AV.int IntKind.i64 i1, AV.int IntKind.i64 i2, AV.str s3, AV.sl false n4 c5, AV.sl false n6 c7]] (AV.int IntKind.i64 i8) ∧
        ∃ (i9 : Int),
          ((decide (i8 ≤ (16 : Int)) && true) = true → PC Tryz.prog cfg 70 [AV.agg [AV.int IntKind.i64 i1, AV.int IntKind.i64 i2, AV.str s3, AV.sl false n4 c5, AV.sl false n6 c7]] (AV.int IntKind.i64 i9)) ∧
            ∃ (b10 : Bool),
              (((bif decide (i8 ≤ (16 : Int)) then decide (i9 ≤ (1024 : Int)) else false) && true) = true →
                  PC Tryz.prog cfg 71 [AV.agg [AV.int IntKind.i64 i1, AV.int IntKind.i64 i2, AV.str s3, AV.sl false n4 c5, AV.sl false n6 c7], AV.bool false] (AV.bool b10)) ∧
                Q (AV.bool (bif bif decide (i8 ≤ (16 : Int)) then decide (i9 ≤ (1024 : Int)) else false then b10 else false)) := by intros; kernel_rfl

theorem n69 : ∀ (i1 i2 : Int) (s3 : List UInt8) (n4 : Nat) (c5 : List AV) (n6 : Nat) (c7 : List AV) (Q : AV → Prop),
  BodyP Tryz.prog cfg { ptr := false, sl := 0 } 69 [AV.agg [AV.int IntKind.i64 i1, AV.int IntKind.i64 i2, AV.str s3, AV.sl false n4 c5, AV.sl false n6 c7]] [] (retE Q) =
    ∃ (i8 : Int),
      PC Tryz.prog cfg 111 [AV.agg [AV.int IntKind.i64 i1, AV.int IntKind.i64 i2, AV.str s3, AV.sl false n4 c5, AV.sl false n6 c7], AV.int IntKind.i64 17] (AV.int IntKind.i64 i8) ∧ Q (AV.int IntKind.i64 i8) := by intros; kernel_rfl

theorem n70 : ∀ (i1 i2 : Int) (s3 : List UInt8) (n4 : Nat) (c5 : List AV) (n6 : Nat) (c7 : List AV) (Q : AV → Prop),
  BodyP Tryz.prog cfg { ptr := false, sl := 0 } 70 [AV.agg [AV.int IntKind.i64 i1, AV.int IntKind.i64 i2, AV.str s3, AV.sl false n4 c5, AV.sl false n6 c7]] [] (retE Q) =
    ∃ (i8 : Int),
      PC Tryz.prog cfg 112 [AV.agg [AV.int IntKind.i64 i1, AV.int IntKind.i64 i2, AV.str s3, AV.sl false n4 c5, AV.sl false n6 c7], AV.int IntKind.i64 1025] (AV.int IntKind.i64 i8) ∧ Q (AV.int IntKind.i64 i8) := by intros; kernel_rfl

theorem n71 : ∀ (i1 i2 : Int) (s3 : List UInt8) (n4 : Nat) (c5 : List AV) (n6 : Nat) (c7 : List AV) (b8 : Bool) (Q : AV → Prop),
  BodyP Tryz.prog cfg { ptr := false, sl := 0 } 71 [AV.agg [AV.int IntKind.i64 i1, AV.int IntKind.i64 i2, AV.str s3, AV.sl false n4 c5, AV.sl false n6 c7], AV.bool b8] [] (retE Q) =
    bif bif bif i1 != (6 : Int) then decide ((↑n4 : Int) > (0 : Int)) else false then true else bif i1 != (5 : Int) then decide ((↑n6 : Int) > (0 : Int)) else false then Q (AV.bool false)
    else
      bif
          bif
              bif
                  bif bif !bif bif i1 == (4 : Int) then true else i1 == (7 : Int) then true else i1 == (8 : Int) then !s3 == [] else false then true
                  else bif !bif bif i1 == (3 : Int) then true else i1 == (9 : Int) then true else i1 == (10 : Int) then i2 != (0 : Int) else false then
                true
              else decide (i1 < (1 : Int)) then
            true
          else decide (i1 > (11 : Int)) then
        Q (AV.bool false)
      else
        bif i1 == (9 : Int) then Q (AV.bool (bif i2 == (0 : Int) then true else i2 == (1 : Int)))
        else
          bif i1 == (10 : Int) then Q (AV.bool (decide (i2 ≥ (0 : Int))))
          else
            bif i1 == (4 : Int) then
              ∃ (b9 : Bool),
                ((decide ((↑(List.length s3) : Int) ≤ (4096 : Int)) && true) = true → PC Tryz.prog cfg 113 [AV.str s3] (AV.bool b9)) ∧ Q (AV.bool (bif decide ((↑(List.length s3) : Int) ≤ (4096 : Int)) then b9 else false))
            else
              bif i1 == (7 : Int) then Q (AV.bool (decide ((↑(List.length s3) : Int) ≤ (4096 : Int))))
              else
                bif i1 == (8 : Int) then Q (AV.bool ((↑(List.length s3) : Int) == (12 : Int)))
                else
                  LabelP Tryz.prog cfg { ptr := false, sl := 0 } 71 19
                    [AV.bool b8, AV.box [AV.int IntKind.i64 i1, AV.int IntKind.i64 i2, AV.str s3, AV.sl false n4 c5, AV.sl false n6 c7], AV.int IntKind.i64 0] [] (retE Q) := by intros; kernel_rfl

theorem l71_19 : ∀ (b1 : Bool) (i2 i3 : Int) (s4 : List UInt8) (n5 : Nat) (c6 : List AV) (n7 : Nat) (c8 : List AV) (i9 : Int) (h : Heap) (Q : AV → Prop),
  LabelB Tryz.prog cfg { ptr := false, sl := 0 } 71 19 [AV.bool b1, AV.box [AV.int IntKind.i64 i2, AV.int IntKind.i64 i3, AV.str s4, AV.sl false n5 c6, AV.sl false n7 c8], AV.int IntKind.i64 i9] h
      (retE Q) =
    bif decide (i9 < (↑n5 : Int)) then
      ((0 : Int) ≤ i9 ∧ i9 < (↑n5 : Int)) ∧
        ∃ (i10 : Int),
          ∃ (i11 : Int),
            ∃ (s12 : List UInt8),
              ∃ (n13 : Nat),
                ∃ (c14 : List AV),
                  ∃ (n15 : Nat),
                    ∃ (c16 : List AV),
                      seg c6 (Int.toNat i9 * 5) 5 = some [AV.int IntKind.i64 i10, AV.int IntKind.i64 i11, AV.str s12, AV.sl false n13 c14, AV.sl false n15 c16] ∧
                        ∃ (b17 : Bool),
                          PC Tryz.prog cfg 71 [AV.agg [AV.int IntKind.i64 i10, AV.int IntKind.i64 i11, AV.str s12, AV.sl false n13 c14, AV.sl false n15 c16], AV.bool b1] (AV.bool b17) ∧
                            bif !b17 then Q (AV.bool false)
                            else
                              LabelP Tryz.prog cfg { ptr := false, sl := 0 } 71 19
                                [AV.bool b1, AV.box [AV.int IntKind.i64 i2, AV.int IntKind.i64 i3, AV.str s4, AV.sl false n5 c6, AV.sl false n7 c8], AV.int IntKind.i64 (IntKind.wrap IntKind.i64 (i9 + (1 : Int)))] h (retE Q)
    else ∃ (b18 : Bool), PC Tryz.prog cfg 114 [AV.agg [AV.int IntKind.i64 i2, AV.int IntKind.i64 i3, AV.str s4, AV.sl false n5 c6, AV.sl false n7 c8], AV.bool b1] (AV.bool b18) ∧ Q (AV.bool b18) := by intros; kernel_rfl

theorem n111 : ∀ (i1 i2 : Int) (s3 : List UInt8) (n4 : Nat) (c5 : List AV) (n6 : Nat) (c7 : List AV) (i8 : Int) (Q : AV → Prop),
  BodyP Tryz.prog cfg { ptr := false, sl := 0 } 111 [AV.agg [AV.int IntKind.i64 i1, AV.int IntKind.i64 i2, AV.str s3, AV.sl false n4 c5, AV.sl false n6 c7], AV.int IntKind.i64 i8] [] (retE Q) =
    ∃ (n9 : Nat),
      ∃ (c10 : List AV),
        PC Tryz.prog cfg 147 [AV.agg [AV.int IntKind.i64 i1, AV.int IntKind.i64 i2, AV.str s3, AV.sl false n4 c5, AV.sl false n6 c7]] (AV.sl false n9 c10) ∧
          bif bif decide (i8 < (2 : Int)) then true else (↑n9 : Int) == (0 : Int) then Q (AV.int IntKind.i64 1)
          else LabelP Tryz.prog cfg { ptr := false, sl := 0 } 111 6 [AV.int IntKind.i64 i8, AV.sl false n9 c10, AV.int IntKind.i64 0, AV.int IntKind.i64 0] [] (retE Q) := by intros; kernel_rfl

theorem l111_6 : ∀ (i1 : Int) (n2 : Nat) (c3 : List AV) (i4 i5 : Int) (h : Heap) (Q : AV → Prop),
  LabelB Tryz.prog cfg { ptr := false, sl := 0 } 111 6 [AV.int IntKind.i64 i1, AV.sl false n2 c3, AV.int IntKind.i64 i4, AV.int IntKind.i64 i5] h (retE Q) =
    bif decide (i5 < (↑n2 : Int)) then
      ((0 : Int) ≤ i5 ∧ i5 < (↑n2 : Int)) ∧
        ∃ (i6 : Int),
          ∃ (i7 : Int),
            ∃ (s8 : List UInt8),
              ∃ (n9 : Nat),
                ∃ (c10 : List AV),
                  ∃ (n11 : Nat),
                    ∃ (c12 : List AV),
                      seg c3 (Int.toNat i5 * 5) 5 = some [AV.int IntKind.i64 i6, AV.int IntKind.i64 i7, AV.str s8, AV.sl false n9 c10, AV.sl false n11 c12] ∧
                        ∃ (i13 : Int),
                          PC Tryz.prog cfg 111 [AV.agg [AV.int IntKind.i64 i6, AV.int IntKind.i64 i7, AV.str s8, AV.sl false n9 c10, AV.sl false n11 c12], AV.int IntKind.i64 (IntKind.wrap IntKind.i64 (i1 - (1 : Int)))]
                              (AV.int IntKind.i64 i13) ∧
                            LabelP Tryz.prog cfg { ptr := false, sl := 0 } 111 6
                              [AV.int IntKind.i64 i1, AV.sl false n2 c3, AV.int IntKind.i64 (if i13 > i4 then i13 else i4), AV.int IntKind.i64 (IntKind.wrap IntKind.i64 (i5 + (1 : Int)))] h (retE Q)
    else Q (AV.int IntKind.i64 (IntKind.wrap IntKind.i64 (i4 + (1 : Int)))) := by intros; kernel_rfl

theorem n112 : ∀ (i1 i2 : Int) (s3 : List UInt8) (n4 : Nat) (c5 : List AV) (n6 : Nat) (c7 : List AV) (i8 : Int) (Q : AV → Prop),
  BodyP Tryz.prog cfg { ptr := false, sl := 0 } 112 [AV.agg [AV.int IntKind.i64 i1, AV.int IntKind.i64 i2, AV.str s3, AV.sl false n4 c5, AV.sl false n6 c7], AV.int IntKind.i64 i8] [] (retE Q) =
    ∃ (n9 : Nat),
      ∃ (c10 : List AV),
        PC Tryz.prog cfg 147 [AV.agg [AV.int IntKind.i64 i1, AV.int IntKind.i64 i2, AV.str s3, AV.sl false n4 c5, AV.sl false n6 c7]] (AV.sl false n9 c10) ∧
          LabelP Tryz.prog cfg { ptr := false, sl := 0 } 112 4 [AV.int IntKind.i64 i8, AV.int IntKind.i64 1, AV.sl false n9 c10, AV.int IntKind.i64 0] [] (retE Q) := by intros; kernel_rfl

theorem l112_4 : ∀ (i1 i2 : Int) (n3 : Nat) (c4 : List AV) (i5 : Int) (h : Heap) (Q : AV → Prop),
  LabelB Tryz.prog cfg { ptr := false, sl := 0 } 112 4 [AV.int IntKind.i64 i1, AV.int IntKind.i64 i2, AV.sl false n3 c4, AV.int IntKind.i64 i5] h (retE Q) =
    bif bif decide (i5 < (↑n3 : Int)) then decide (i2 < i1) else false then
      ((0 : Int) ≤ i5 ∧ i5 < (↑n3 : Int)) ∧
        ∃ (i6 : Int),
          ∃ (i7 : Int),
            ∃ (s8 : List UInt8),
              ∃ (n9 : Nat),
                ∃ (c10 : List AV),
                  ∃ (n11 : Nat),
                    ∃ (c12 : List AV),
                      seg c4 (Int.toNat i5 * 5) 5 = some [AV.int IntKind.i64 i6, AV.int IntKind.i64 i7, AV.str s8, AV.sl false n9 c10, AV.sl false n11 c12] ∧
                        ∃ (i13 : Int),
                          PC Tryz.prog cfg 112 [AV.agg [AV.int IntKind.i64 i6, AV.int IntKind.i64 i7, AV.str s8, AV.sl false n9 c10, AV.sl false n11 c12], AV.int IntKind.i64 (IntKind.wrap IntKind.i64 (i1 - i2))]
                              (AV.int IntKind.i64 i13) ∧
                            LabelP Tryz.prog cfg { ptr := false, sl := 0 } 112 4
                              [AV.int IntKind.i64 i1, AV.int IntKind.i64 (IntKind.wrap IntKind.i64 (i2 + i13)), AV.sl false n3 c4, AV.int IntKind.i64 (IntKind.wrap IntKind.i64 (i5 + (1 : Int)))] h (retE Q)
    else Q (AV.int IntKind.i64 i2) := by intros; kernel_rfl

theorem n113 : ∀ (s1 : List UInt8) (Q : AV → Prop),
  BodyP Tryz.prog cfg { ptr := false, sl := 0 } 113 [AV.str s1] [] (retE Q) = LabelP Tryz.prog cfg { ptr := false, sl := 0 } 113 2 [AV.str s1, AV.int IntKind.i64 0] [] (retE Q) := by intros; kernel_rfl

theorem l113_2 : ∀ (s1 : List UInt8) (i2 : Int) (h : Heap) (Q : AV → Prop),
  LabelB Tryz.prog cfg { ptr := false, sl := 0 } 113 2 [AV.str s1, AV.int IntKind.i64 i2] h (retE Q) =
    bif decide (i2 < (↑(List.length s1) : Int)) then
      ((0 : Int) ≤ i2 ∧ i2 < (↑(List.length s1) : Int)) ∧
        bif decide ((↑(UInt8.toNat (List.getD s1 (Int.toNat i2) 0)) : Int) < (128 : Int)) then
          ∃ (b3 : Bool),
            PC Tryz.prog cfg 148 [AV.str s1, AV.int IntKind.i64 (IntKind.wrap IntKind.i64 (i2 + (1 : Int))), AV.int IntKind.i64 0] (AV.bool b3) ∧
              bif !b3 then Q (AV.bool false)
              else
                (((↑(UInt8.toNat (List.getD s1 (Int.toNat i2) 0)) : Int) == (224 : Int) && true) = true →
                    (0 : Int) ≤ IntKind.wrap IntKind.i64 (i2 + (1 : Int)) ∧ IntKind.wrap IntKind.i64 (i2 + (1 : Int)) < (↑(List.length s1) : Int)) ∧
                  (((↑(UInt8.toNat (List.getD s1 (Int.toNat i2) 0)) : Int) == (237 : Int) &&
                          ((!bif (↑(UInt8.toNat (List.getD s1 (Int.toNat i2) 0)) : Int) == (224 : Int) then
                                decide ((↑(UInt8.toNat (List.getD s1 (Int.toNat (IntKind.wrap IntKind.i64 (i2 + (1 : Int)))) 0)) : Int) < (160 : Int))
                              else false) &&
                            true)) =
                        true →
                      (0 : Int) ≤ IntKind.wrap IntKind.i64 (i2 + (1 : Int)) ∧ IntKind.wrap IntKind.i64 (i2 + (1 : Int)) < (↑(List.length s1) : Int)) ∧
                    (((↑(UInt8.toNat (List.getD s1 (Int.toNat i2) 0)) : Int) == (240 : Int) &&
                            ((!bif
                                    bif (↑(UInt8.toNat (List.getD s1 (Int.toNat i2) 0)) : Int) == (224 : Int) then
                                      decide ((↑(UInt8.toNat (List.getD s1 (Int.toNat (IntKind.wrap IntKind.i64 (i2 + (1 : Int)))) 0)) : Int) < (160 : Int))
                                    else false then
                                  true
                                else
                                  bif (↑(UInt8.toNat (List.getD s1 (Int.toNat i2) 0)) : Int) == (237 : Int) then
                                    decide ((↑(UInt8.toNat (List.getD s1 (Int.toNat (IntKind.wrap IntKind.i64 (i2 + (1 : Int)))) 0)) : Int) > (159 : Int))
                                  else false) &&
                              true)) =
                          true →
                        (0 : Int) ≤ IntKind.wrap IntKind.i64 (i2 + (1 : Int)) ∧ IntKind.wrap IntKind.i64 (i2 + (1 : Int)) < (↑(List.length s1) : Int)) ∧
                      (((↑(UInt8.toNat (List.getD s1 (Int.toNat i2) 0)) : Int) == (244 : Int) &&
                              ((!bif
                                      bif
                                          bif (↑(UInt8.toNat (List.getD s1 (Int.toNat i2) 0)) : Int) == (224 : Int) then
                                            decide ((↑(UInt8.toNat (List.getD s1 (Int.toNat (IntKind.wrap IntKind.i64 (i2 + (1 : Int)))) 0)) : Int) < (160 : Int))
                                          else false then
                                        true
                                      else
                                        bif (↑(UInt8.toNat (List.getD s1 (Int.toNat i2) 0)) : Int) == (237 : Int) then
                                          decide ((↑(UInt8.toNat (List.getD s1 (Int.toNat (IntKind.wrap IntKind.i64 (i2 + (1 : Int)))) 0)) : Int) > (159 : Int))
                                        else false then
                                    true
                                  else
                                    bif (↑(UInt8.toNat (List.getD s1 (Int.toNat i2) 0)) : Int) == (240 : Int) then
                                      decide ((↑(UInt8.toNat (List.getD s1 (Int.toNat (IntKind.wrap IntKind.i64 (i2 + (1 : Int)))) 0)) : Int) < (144 : Int))
                                    else false) &&
                                true)) =
                            true →
                          (0 : Int) ≤ IntKind.wrap IntKind.i64 (i2 + (1 : Int)) ∧ IntKind.wrap IntKind.i64 (i2 + (1 : Int)) < (↑(List.length s1) : Int)) ∧
                        bif
                            bif
                                bif
                                    bif
                                        bif (↑(UInt8.toNat (List.getD s1 (Int.toNat i2) 0)) : Int) == (224 : Int) then
                                          decide ((↑(UInt8.toNat (List.getD s1 (Int.toNat (IntKind.wrap IntKind.i64 (i2 + (1 : Int)))) 0)) : Int) < (160 : Int))
                                        else false then
                                      true
                                    else
                                      bif (↑(UInt8.toNat (List.getD s1 (Int.toNat i2) 0)) : Int) == (237 : Int) then
                                        decide ((↑(UInt8.toNat (List.getD s1 (Int.toNat (IntKind.wrap IntKind.i64 (i2 + (1 : Int)))) 0)) : Int) > (159 : Int))
                                      else false then
                                  true
                                else
                                  bif (↑(UInt8.toNat (List.getD s1 (Int.toNat i2) 0)) : Int) == (240 : Int) then
                                    decide ((↑(UInt8.toNat (List.getD s1 (Int.toNat (IntKind.wrap IntKind.i64 (i2 + (1 : Int)))) 0)) : Int) < (144 : Int))
                                  else false then
                              true
                            else
                              bif (↑(UInt8.toNat (List.getD s1 (Int.toNat i2) 0)) : Int) == (244 : Int) then
                                decide ((↑(UInt8.toNat (List.getD s1 (Int.toNat (IntKind.wrap IntKind.i64 (i2 + (1 : Int)))) 0)) : Int) > (143 : Int))
                              else false then
                          Q (AV.bool false)
                        else
                          LabelP Tryz.prog cfg { ptr := false, sl := 0 } 113 2 [AV.str s1, AV.int IntKind.i64 (IntKind.wrap IntKind.i64 (IntKind.wrap IntKind.i64 (i2 + (0 : Int)) + (1 : Int)))] h (retE Q)
        else
          bif bif decide ((↑(UInt8.toNat (List.getD s1 (Int.toNat i2) 0)) : Int) ≥ (194 : Int)) then decide ((↑(UInt8.toNat (List.getD s1 (Int.toNat i2) 0)) : Int) ≤ (223 : Int)) else false then
            ∃ (b4 : Bool),
              PC Tryz.prog cfg 148 [AV.str s1, AV.int IntKind.i64 (IntKind.wrap IntKind.i64 (i2 + (1 : Int))), AV.int IntKind.i64 1] (AV.bool b4) ∧
                bif !b4 then Q (AV.bool false)
                else
                  (((↑(UInt8.toNat (List.getD s1 (Int.toNat i2) 0)) : Int) == (224 : Int) && true) = true →
                      (0 : Int) ≤ IntKind.wrap IntKind.i64 (i2 + (1 : Int)) ∧ IntKind.wrap IntKind.i64 (i2 + (1 : Int)) < (↑(List.length s1) : Int)) ∧
                    (((↑(UInt8.toNat (List.getD s1 (Int.toNat i2) 0)) : Int) == (237 : Int) &&
                            ((!bif (↑(UInt8.toNat (List.getD s1 (Int.toNat i2) 0)) : Int) == (224 : Int) then
                                  decide ((↑(UInt8.toNat (List.getD s1 (Int.toNat (IntKind.wrap IntKind.i64 (i2 + (1 : Int)))) 0)) : Int) < (160 : Int))
                                else false) &&
                              true)) =
                          true →
                        (0 : Int) ≤ IntKind.wrap IntKind.i64 (i2 + (1 : Int)) ∧ IntKind.wrap IntKind.i64 (i2 + (1 : Int)) < (↑(List.length s1) : Int)) ∧
                      (((↑(UInt8.toNat (List.getD s1 (Int.toNat i2) 0)) : Int) == (240 : Int) &&
                              ((!bif
                                      bif (↑(UInt8.toNat (List.getD s1 (Int.toNat i2) 0)) : Int) == (224 : Int) then
                                        decide ((↑(UInt8.toNat (List.getD s1 (Int.toNat (IntKind.wrap IntKind.i64 (i2 + (1 : Int)))) 0)) : Int) < (160 : Int))
                                      else false then
                                    true
                                  else
                                    bif (↑(UInt8.toNat (List.getD s1 (Int.toNat i2) 0)) : Int) == (237 : Int) then
                                      decide ((↑(UInt8.toNat (List.getD s1 (Int.toNat (IntKind.wrap IntKind.i64 (i2 + (1 : Int)))) 0)) : Int) > (159 : Int))
                                    else false) &&
                                true)) =
                            true →
                          (0 : Int) ≤ IntKind.wrap IntKind.i64 (i2 + (1 : Int)) ∧ IntKind.wrap IntKind.i64 (i2 + (1 : Int)) < (↑(List.length s1) : Int)) ∧
                        (((↑(UInt8.toNat (List.getD s1 (Int.toNat i2) 0)) : Int) == (244 : Int) &&
                                ((!bif
                                        bif
                                            bif (↑(UInt8.toNat (List.getD s1 (Int.toNat i2) 0)) : Int) == (224 : Int) then
                                              decide ((↑(UInt8.toNat (List.getD s1 (Int.toNat (IntKind.wrap IntKind.i64 (i2 + (1 : Int)))) 0)) : Int) < (160 : Int))
                                            else false then
                                          true
                                        else
                                          bif (↑(UInt8.toNat (List.getD s1 (Int.toNat i2) 0)) : Int) == (237 : Int) then
                                            decide ((↑(UInt8.toNat (List.getD s1 (Int.toNat (IntKind.wrap IntKind.i64 (i2 + (1 : Int)))) 0)) : Int) > (159 : Int))
                                          else false then
                                      true
                                    else
                                      bif (↑(UInt8.toNat (List.getD s1 (Int.toNat i2) 0)) : Int) == (240 : Int) then
                                        decide ((↑(UInt8.toNat (List.getD s1 (Int.toNat (IntKind.wrap IntKind.i64 (i2 + (1 : Int)))) 0)) : Int) < (144 : Int))
                                      else false) &&
                                  true)) =
                              true →
                            (0 : Int) ≤ IntKind.wrap IntKind.i64 (i2 + (1 : Int)) ∧ IntKind.wrap IntKind.i64 (i2 + (1 : Int)) < (↑(List.length s1) : Int)) ∧
                          bif
                              bif
                                  bif
                                      bif
                                          bif (↑(UInt8.toNat (List.getD s1 (Int.toNat i2) 0)) : Int) == (224 : Int) then
                                            decide ((↑(UInt8.toNat (List.getD s1 (Int.toNat (IntKind.wrap IntKind.i64 (i2 + (1 : Int)))) 0)) : Int) < (160 : Int))
                                          else false then
                                        true
                                      else
                                        bif (↑(UInt8.toNat (List.getD s1 (Int.toNat i2) 0)) : Int) == (237 : Int) then
                                          decide ((↑(UInt8.toNat (List.getD s1 (Int.toNat (IntKind.wrap IntKind.i64 (i2 + (1 : Int)))) 0)) : Int) > (159 : Int))
                                        else false then
                                    true
                                  else
                                    bif (↑(UInt8.toNat (List.getD s1 (Int.toNat i2) 0)) : Int) == (240 : Int) then
                                      decide ((↑(UInt8.toNat (List.getD s1 (Int.toNat (IntKind.wrap IntKind.i64 (i2 + (1 : Int)))) 0)) : Int) < (144 : Int))
                                    else false then
                                true
                              else
                                bif (↑(UInt8.toNat (List.getD s1 (Int.toNat i2) 0)) : Int) == (244 : Int) then
                                  decide ((↑(UInt8.toNat (List.getD s1 (Int.toNat (IntKind.wrap IntKind.i64 (i2 + (1 : Int)))) 0)) : Int) > (143 : Int))
                                else false then
                            Q (AV.bool false)
                          else
                            LabelP Tryz.prog cfg { ptr := false, sl := 0 } 113 2 [AV.str s1, AV.int IntKind.i64 (IntKind.wrap IntKind.i64 (IntKind.wrap IntKind.i64 (i2 + (1 : Int)) + (1 : Int)))] h (retE Q)
          else
            bif bif decide ((↑(UInt8.toNat (List.getD s1 (Int.toNat i2) 0)) : Int) ≥ (224 : Int)) then decide ((↑(UInt8.toNat (List.getD s1 (Int.toNat i2) 0)) : Int) ≤ (239 : Int)) else false then
              ∃ (b5 : Bool),
                PC Tryz.prog cfg 148 [AV.str s1, AV.int IntKind.i64 (IntKind.wrap IntKind.i64 (i2 + (1 : Int))), AV.int IntKind.i64 2] (AV.bool b5) ∧
                  bif !b5 then Q (AV.bool false)
                  else
                    (((↑(UInt8.toNat (List.getD s1 (Int.toNat i2) 0)) : Int) == (224 : Int) && true) = true →
                        (0 : Int) ≤ IntKind.wrap IntKind.i64 (i2 + (1 : Int)) ∧ IntKind.wrap IntKind.i64 (i2 + (1 : Int)) < (↑(List.length s1) : Int)) ∧
                      (((↑(UInt8.toNat (List.getD s1 (Int.toNat i2) 0)) : Int) == (237 : Int) &&
                              ((!bif (↑(UInt8.toNat (List.getD s1 (Int.toNat i2) 0)) : Int) == (224 : Int) then
                                    decide ((↑(UInt8.toNat (List.getD s1 (Int.toNat (IntKind.wrap IntKind.i64 (i2 + (1 : Int)))) 0)) : Int) < (160 : Int))
                                  else false) &&
                                true)) =
                            true →
                          (0 : Int) ≤ IntKind.wrap IntKind.i64 (i2 + (1 : Int)) ∧ IntKind.wrap IntKind.i64 (i2 + (1 : Int)) < (↑(List.length s1) : Int)) ∧
                        (((↑(UInt8.toNat (List.getD s1 (Int.toNat i2) 0)) : Int) == (240 : Int) &&
                                ((!bif
                                        bif (↑(UInt8.toNat (List.getD s1 (Int.toNat i2) 0)) : Int) == (224 : Int) then
                                          decide ((↑(UInt8.toNat (List.getD s1 (Int.toNat (IntKind.wrap IntKind.i64 (i2 + (1 : Int)))) 0)) : Int) < (160 : Int))
                                        else false then
                                      true
                                    else
                                      bif (↑(UInt8.toNat (List.getD s1 (Int.toNat i2) 0)) : Int) == (237 : Int) then
                                        decide ((↑(UInt8.toNat (List.getD s1 (Int.toNat (IntKind.wrap IntKind.i64 (i2 + (1 : Int)))) 0)) : Int) > (159 : Int))
                                      else false) &&
                                  true)) =
                              true →
                            (0 : Int) ≤ IntKind.wrap IntKind.i64 (i2 + (1 : Int)) ∧ IntKind.wrap IntKind.i64 (i2 + (1 : Int)) < (↑(List.length s1) : Int)) ∧
                          (((↑(UInt8.toNat (List.getD s1 (Int.toNat i2) 0)) : Int) == (244 : Int) &&
                                  ((!bif
                                          bif
                                              bif (↑(UInt8.toNat (List.getD s1 (Int.toNat i2) 0)) : Int) == (224 : Int) then
                                                decide ((↑(UInt8.toNat (List.getD s1 (Int.toNat (IntKind.wrap IntKind.i64 (i2 + (1 : Int)))) 0)) : Int) < (160 : Int))
                                              else false then
                                            true
                                          else
                                            bif (↑(UInt8.toNat (List.getD s1 (Int.toNat i2) 0)) : Int) == (237 : Int) then
                                              decide ((↑(UInt8.toNat (List.getD s1 (Int.toNat (IntKind.wrap IntKind.i64 (i2 + (1 : Int)))) 0)) : Int) > (159 : Int))
                                            else false then
                                        true
                                      else
                                        bif (↑(UInt8.toNat (List.getD s1 (Int.toNat i2) 0)) : Int) == (240 : Int) then
                                          decide ((↑(UInt8.toNat (List.getD s1 (Int.toNat (IntKind.wrap IntKind.i64 (i2 + (1 : Int)))) 0)) : Int) < (144 : Int))
                                        else false) &&
                                    true)) =
                                true →
                              (0 : Int) ≤ IntKind.wrap IntKind.i64 (i2 + (1 : Int)) ∧ IntKind.wrap IntKind.i64 (i2 + (1 : Int)) < (↑(List.length s1) : Int)) ∧
                            bif
                                bif
                                    bif
                                        bif
                                            bif (↑(UInt8.toNat (List.getD s1 (Int.toNat i2) 0)) : Int) == (224 : Int) then
                                              decide ((↑(UInt8.toNat (List.getD s1 (Int.toNat (IntKind.wrap IntKind.i64 (i2 + (1 : Int)))) 0)) : Int) < (160 : Int))
                                            else false then
                                          true
                                        else
                                          bif (↑(UInt8.toNat (List.getD s1 (Int.toNat i2) 0)) : Int) == (237 : Int) then
                                            decide ((↑(UInt8.toNat (List.getD s1 (Int.toNat (IntKind.wrap IntKind.i64 (i2 + (1 : Int)))) 0)) : Int) > (159 : Int))
                                          else false then
                                      true
                                    else
                                      bif (↑(UInt8.toNat (List.getD s1 (Int.toNat i2) 0)) : Int) == (240 : Int) then
                                        decide ((↑(UInt8.toNat (List.getD s1 (Int.toNat (IntKind.wrap IntKind.i64 (i2 + (1 : Int)))) 0)) : Int) < (144 : Int))
                                      else false then
                                  true
                                else
                                  bif (↑(UInt8.toNat (List.getD s1 (Int.toNat i2) 0)) : Int) == (244 : Int) then
                                    decide ((↑(UInt8.toNat (List.getD s1 (Int.toNat (IntKind.wrap IntKind.i64 (i2 + (1 : Int)))) 0)) : Int) > (143 : Int))
                                  else false then
                              Q (AV.bool false)
                            else
                              LabelP Tryz.prog cfg { ptr := false, sl := 0 } 113 2 [AV.str s1, AV.int IntKind.i64 (IntKind.wrap IntKind.i64 (IntKind.wrap IntKind.i64 (i2 + (2 : Int)) + (1 : Int)))] h
                                (retE Q)
            else
              bif bif decide ((↑(UInt8.toNat (List.getD s1 (Int.toNat i2) 0)) : Int) ≥ (240 : Int)) then decide ((↑(UInt8.toNat (List.getD s1 (Int.toNat i2) 0)) : Int) ≤ (244 : Int)) else false then
                ∃ (b6 : Bool),
                  PC Tryz.prog cfg 148 [AV.str s1, AV.int IntKind.i64 (IntKind.wrap IntKind.i64 (i2 + (1 : Int))), AV.int IntKind.i64 3] (AV.bool b6) ∧
                    bif !b6 then Q (AV.bool false)
                    else
                      (((↑(UInt8.toNat (List.getD s1 (Int.toNat i2) 0)) : Int) == (224 : Int) && true) = true →
                          (0 : Int) ≤ IntKind.wrap IntKind.i64 (i2 + (1 : Int)) ∧ IntKind.wrap IntKind.i64 (i2 + (1 : Int)) < (↑(List.length s1) : Int)) ∧
                        (((↑(UInt8.toNat (List.getD s1 (Int.toNat i2) 0)) : Int) == (237 : Int) &&
                                ((!bif (↑(UInt8.toNat (List.getD s1 (Int.toNat i2) 0)) : Int) == (224 : Int) then
                                      decide ((↑(UInt8.toNat (List.getD s1 (Int.toNat (IntKind.wrap IntKind.i64 (i2 + (1 : Int)))) 0)) : Int) < (160 : Int))
                                    else false) &&
                                  true)) =
                              true →
                            (0 : Int) ≤ IntKind.wrap IntKind.i64 (i2 + (1 : Int)) ∧ IntKind.wrap IntKind.i64 (i2 + (1 : Int)) < (↑(List.length s1) : Int)) ∧
                          (((↑(UInt8.toNat (List.getD s1 (Int.toNat i2) 0)) : Int) == (240 : Int) &&
                                  ((!bif
                                          bif (↑(UInt8.toNat (List.getD s1 (Int.toNat i2) 0)) : Int) == (224 : Int) then
                                            decide ((↑(UInt8.toNat (List.getD s1 (Int.toNat (IntKind.wrap IntKind.i64 (i2 + (1 : Int)))) 0)) : Int) < (160 : Int))
                                          else false then
                                        true
                                      else
                                        bif (↑(UInt8.toNat (List.getD s1 (Int.toNat i2) 0)) : Int) == (237 : Int) then
                                          decide ((↑(UInt8.toNat (List.getD s1 (Int.toNat (IntKind.wrap IntKind.i64 (i2 + (1 : Int)))) 0)) : Int) > (159 : Int))
                                        else false) &&
                                    true)) =
                                true →
                              (0 : Int) ≤ IntKind.wrap IntKind.i64 (i2 + (1 : Int)) ∧ IntKind.wrap IntKind.i64 (i2 + (1 : Int)) < (↑(List.length s1) : Int)) ∧
                            (((↑(UInt8.toNat (List.getD s1 (Int.toNat i2) 0)) : Int) == (244 : Int) &&
                                    ((!bif
                                            bif
                                                bif (↑(UInt8.toNat (List.getD s1 (Int.toNat i2) 0)) : Int) == (224 : Int) then
                                                  decide ((↑(UInt8.toNat (List.getD s1 (Int.toNat (IntKind.wrap IntKind.i64 (i2 + (1 : Int)))) 0)) : Int) < (160 : Int))
                                                else false then
                                              true
                                            else
                                              bif (↑(UInt8.toNat (List.getD s1 (Int.toNat i2) 0)) : Int) == (237 : Int) then
                                                decide ((↑(UInt8.toNat (List.getD s1 (Int.toNat (IntKind.wrap IntKind.i64 (i2 + (1 : Int)))) 0)) : Int) > (159 : Int))
                                              else false then
                                          true
                                        else
                                          bif (↑(UInt8.toNat (List.getD s1 (Int.toNat i2) 0)) : Int) == (240 : Int) then
                                            decide ((↑(UInt8.toNat (List.getD s1 (Int.toNat (IntKind.wrap IntKind.i64 (i2 + (1 : Int)))) 0)) : Int) < (144 : Int))
                                          else false) &&
                                      true)) =
                                  true →
                                (0 : Int) ≤ IntKind.wrap IntKind.i64 (i2 + (1 : Int)) ∧ IntKind.wrap IntKind.i64 (i2 + (1 : Int)) < (↑(List.length s1) : Int)) ∧
                              bif
                                  bif
                                      bif
                                          bif
                                              bif (↑(UInt8.toNat (List.getD s1 (Int.toNat i2) 0)) : Int) == (224 : Int) then
                                                decide ((↑(UInt8.toNat (List.getD s1 (Int.toNat (IntKind.wrap IntKind.i64 (i2 + (1 : Int)))) 0)) : Int) < (160 : Int))
                                              else false then
                                            true
                                          else
                                            bif (↑(UInt8.toNat (List.getD s1 (Int.toNat i2) 0)) : Int) == (237 : Int) then
                                              decide ((↑(UInt8.toNat (List.getD s1 (Int.toNat (IntKind.wrap IntKind.i64 (i2 + (1 : Int)))) 0)) : Int) > (159 : Int))
                                            else false then
                                        true
                                      else
                                        bif (↑(UInt8.toNat (List.getD s1 (Int.toNat i2) 0)) : Int) == (240 : Int) then
                                          decide ((↑(UInt8.toNat (List.getD s1 (Int.toNat (IntKind.wrap IntKind.i64 (i2 + (1 : Int)))) 0)) : Int) < (144 : Int))
                                        else false then
                                    true
                                  else
                                    bif (↑(UInt8.toNat (List.getD s1 (Int.toNat i2) 0)) : Int) == (244 : Int) then
                                      decide ((↑(UInt8.toNat (List.getD s1 (Int.toNat (IntKind.wrap IntKind.i64 (i2 + (1 : Int)))) 0)) : Int) > (143 : Int))
                                    else false then
                                Q (AV.bool false)
                              else
                                LabelP Tryz.prog cfg { ptr := false, sl := 0 } 113 2 [AV.str s1, AV.int IntKind.i64 (IntKind.wrap IntKind.i64 (IntKind.wrap IntKind.i64 (i2 + (3 : Int)) + (1 : Int)))] h
                                  (retE Q)
              else Q (AV.bool false)
    else Q (AV.bool true) := by intros; kernel_rfl

theorem n114 : ∀ (i1 i2 : Int) (s3 : List UInt8) (n4 : Nat) (c5 : List AV) (n6 : Nat) (c7 : List AV) (b8 : Bool) (Q : AV → Prop),
  BodyP Tryz.prog cfg { ptr := false, sl := 0 } 114 [AV.agg [AV.int IntKind.i64 i1, AV.int IntKind.i64 i2, AV.str s3, AV.sl false n4 c5, AV.sl false n6 c7], AV.bool b8] [] (retE Q) =
    LabelP Tryz.prog cfg { ptr := false, sl := 0 } 114 2 [AV.bool b8, AV.box [AV.int IntKind.i64 i1, AV.int IntKind.i64 i2, AV.str s3, AV.sl false n4 c5, AV.sl false n6 c7], AV.int IntKind.i64 0] []
      (retE Q) := by intros; kernel_rfl

theorem l114_2 : ∀ (b1 : Bool) (i2 i3 : Int) (s4 : List UInt8) (n5 : Nat) (c6 : List AV) (n7 : Nat) (c8 : List AV) (i9 : Int) (h : Heap) (Q : AV → Prop),
  LabelB Tryz.prog cfg { ptr := false, sl := 0 } 114 2 [AV.bool b1, AV.box [AV.int IntKind.i64 i2, AV.int IntKind.i64 i3, AV.str s4, AV.sl false n5 c6, AV.sl false n7 c8], AV.int IntKind.i64 i9] h
      (retE Q) =
    bif decide (i9 < (↑n7 : Int)) then
      ((0 : Int) ≤ i9 ∧ i9 < (↑n7 : Int)) ∧
        ∃ (s10 : List UInt8),
          ∃ (i11 : Int),
            ∃ (i12 : Int),
              ∃ (s13 : List UInt8),
                ∃ (n14 : Nat),
                  ∃ (c15 : List AV),
                    ∃ (n16 : Nat),
                      ∃ (c17 : List AV),
                        seg c8 (Int.toNat i9 * 6) 6 = some [AV.str s10, AV.int IntKind.i64 i11, AV.int IntKind.i64 i12, AV.str s13, AV.sl false n14 c15, AV.sl false n16 c17] ∧
                          ∃ (b18 : Bool),
                            ((b1 && true) = true → PC Tryz.prog cfg 87 [AV.str s10] (AV.bool b18)) ∧
                              ∃ (b19 : Bool),
                                ((!b1 && ((!bif b1 then !b18 else false) && true)) = true → PC Tryz.prog cfg 149 [AV.str s10] (AV.bool b19)) ∧
                                  ∃ (b20 : Bool),
                                    (((!bif bif b1 then !b18 else false then true else bif !b1 then !b19 else false) && true) = true →
                                        PC Tryz.prog cfg 71 [AV.agg [AV.int IntKind.i64 i11, AV.int IntKind.i64 i12, AV.str s13, AV.sl false n14 c15, AV.sl false n16 c17], AV.bool b1] (AV.bool b20)) ∧
                                      bif bif bif bif b1 then !b18 else false then true else bif !b1 then !b19 else false then true else !b20 then Q (AV.bool false)
                                      else
                                        LabelP Tryz.prog cfg { ptr := false, sl := 0 } 114 8
                                          [AV.bool b1, AV.box [AV.int IntKind.i64 i2, AV.int IntKind.i64 i3, AV.str s4, AV.sl false n5 c6, AV.sl false n7 c8], AV.int IntKind.i64 i9,
                                            AV.box [AV.str s10, AV.int IntKind.i64 i11, AV.int IntKind.i64 i12, AV.str s13, AV.sl false n14 c15, AV.sl false n16 c17], AV.int IntKind.i64 0]
                                          h (retE Q)
    else Q (AV.bool true) := by intros; kernel_rfl

theorem l114_8 : ∀ (b1 : Bool) (i2 i3 : Int) (s4 : List UInt8) (n5 : Nat) (c6 : List AV) (n7 : Nat) (c8 : List AV) (i9 : Int) (s10 : List UInt8) (i11 i12 : Int) (s13 : List UInt8) (n14 : Nat) (c15 : List AV) (n16 : Nat) (c17 : List AV) (i18 : Int)
  (h : Heap) (Q : AV → Prop),
  LabelB Tryz.prog cfg { ptr := false, sl := 0 } 114 8
      [AV.bool b1, AV.box [AV.int IntKind.i64 i2, AV.int IntKind.i64 i3, AV.str s4, AV.sl false n5 c6, AV.sl false n7 c8], AV.int IntKind.i64 i9,
        AV.box [AV.str s10, AV.int IntKind.i64 i11, AV.int IntKind.i64 i12, AV.str s13, AV.sl false n14 c15, AV.sl false n16 c17], AV.int IntKind.i64 i18]
      h (retE Q) =
    bif decide (i18 < i9) then
      ((0 : Int) ≤ i18 ∧ i18 < (↑n7 : Int)) ∧
        ∃ (s19 : List UInt8),
          seg c8 (Int.toNat i18 * 6 + 0) 1 = some [AV.str s19] ∧
            bif s19 == s10 then Q (AV.bool false)
            else
              LabelP Tryz.prog cfg { ptr := false, sl := 0 } 114 8
                [AV.bool b1, AV.box [AV.int IntKind.i64 i2, AV.int IntKind.i64 i3, AV.str s4, AV.sl false n5 c6, AV.sl false n7 c8], AV.int IntKind.i64 i9,
                  AV.box [AV.str s10, AV.int IntKind.i64 i11, AV.int IntKind.i64 i12, AV.str s13, AV.sl false n14 c15, AV.sl false n16 c17], AV.int IntKind.i64 (IntKind.wrap IntKind.i64 (i18 + (1 : Int)))]
                h (retE Q)
    else
      LabelP Tryz.prog cfg { ptr := false, sl := 0 } 114 2
        [AV.bool b1, AV.box [AV.int IntKind.i64 i2, AV.int IntKind.i64 i3, AV.str s4, AV.sl false n5 c6, AV.sl false n7 c8], AV.int IntKind.i64 (IntKind.wrap IntKind.i64 (i9 + (1 : Int)))] h (retE Q) := by intros; kernel_rfl

theorem n147 : ∀ (i1 i2 : Int) (s3 : List UInt8) (n4 : Nat) (c5 : List AV) (n6 : Nat) (c7 : List AV) (Q : AV → Prop),
  BodyP Tryz.prog cfg { ptr := false, sl := 0 } 147 [AV.agg [AV.int IntKind.i64 i1, AV.int IntKind.i64 i2, AV.str s3, AV.sl false n4 c5, AV.sl false n6 c7]] [] (retE Q) =
    bif i1 == (6 : Int) then
      LabelP Tryz.prog cfg { ptr := false, sl := 0 } 147 4
        [AV.box [AV.int IntKind.i64 i1, AV.int IntKind.i64 i2, AV.str s3, AV.sl false n4 c5, AV.sl false n6 c7], AV.tk 0 0 [], AV.int IntKind.i64 0] [] (retE Q)
    else
      bif i1 == (5 : Int) then
        LabelP Tryz.prog cfg { ptr := false, sl := 0 } 147 9
          [AV.box [AV.int IntKind.i64 i1, AV.int IntKind.i64 i2, AV.str s3, AV.sl false n4 c5, AV.sl false n6 c7], AV.tk 0 0 [], AV.int IntKind.i64 0] [] (retE Q)
      else ∃ (v8 : AV), some (AV.sl false 0 []) = some v8 ∧ Q v8 := by intros; kernel_rfl

theorem l147_4 : ∀ (i1 i2 : Int) (s3 : List UInt8) (n4 : Nat) (c5 : List AV) (n6 : Nat) (c7 : List AV) (id10 n8 : Nat) (c9 : List AV) (i11 : Int) (h : Heap) (Q : AV → Prop),
  LabelB Tryz.prog cfg { ptr := false, sl := 0 } 147 4 [AV.box [AV.int IntKind.i64 i1, AV.int IntKind.i64 i2, AV.str s3, AV.sl false n4 c5, AV.sl false n6 c7], AV.tk id10 n8 c9, AV.int IntKind.i64 i11] h
      (retE Q) =
    bif decide (i11 < (↑n4 : Int)) then
      ((0 : Int) ≤ i11 ∧ i11 < (↑n4 : Int)) ∧
        ∃ (i12 : Int),
          ∃ (i13 : Int),
            ∃ (s14 : List UInt8),
              ∃ (n15 : Nat),
                ∃ (c16 : List AV),
                  ∃ (n17 : Nat),
                    ∃ (c18 : List AV),
                      seg c5 (Int.toNat i11 * 5) 5 = some [AV.int IntKind.i64 i12, AV.int IntKind.i64 i13, AV.str s14, AV.sl false n15 c16, AV.sl false n17 c18] ∧
                        ∃ (h19 : Heap),
                          ∃ (n20 : Nat),
                            AppT Tryz.prog #[23, 23] h id10 n8 c9 (AV.sl true 1 [AV.int IntKind.i64 i12, AV.int IntKind.i64 i13, AV.str s14, AV.sl false n15 c16, AV.sl false n17 c18]) 1
                                [AV.int IntKind.i64 i12, AV.int IntKind.i64 i13, AV.str s14, AV.sl false n15 c16, AV.sl false n17 c18] h19 n20 ∧
                              LabelP Tryz.prog cfg { ptr := false, sl := 0 } 147 4
                                [AV.box [AV.int IntKind.i64 i1, AV.int IntKind.i64 i2, AV.str s3, AV.sl false n4 c5, AV.sl false n6 c7],
                                  AV.tk n20 (n8 + 1) (c9 ++ [AV.int IntKind.i64 i12, AV.int IntKind.i64 i13, AV.str s14, AV.sl false n15 c16, AV.sl false n17 c18]),
                                  AV.int IntKind.i64 (IntKind.wrap IntKind.i64 (i11 + (1 : Int)))]
                                h19 (retE Q)
    else
      bif i1 == (5 : Int) then
        LabelP Tryz.prog cfg { ptr := false, sl := 0 } 147 9
          [AV.box [AV.int IntKind.i64 i1, AV.int IntKind.i64 i2, AV.str s3, AV.sl false n4 c5, AV.sl false n6 c7], AV.tk id10 n8 c9, AV.int IntKind.i64 0] h (retE Q)
      else ∃ (v21 : AV), eraseW false (resH h 8) (AV.tk id10 n8 c9) = some v21 ∧ Q v21 := by intros; kernel_rfl

theorem l147_9 : ∀ (i1 i2 : Int) (s3 : List UInt8) (n4 : Nat) (c5 : List AV) (n6 : Nat) (c7 : List AV) (id10 n8 : Nat) (c9 : List AV) (i11 : Int) (h : Heap) (Q : AV → Prop),
  LabelB Tryz.prog cfg { ptr := false, sl := 0 } 147 9 [AV.box [AV.int IntKind.i64 i1, AV.int IntKind.i64 i2, AV.str s3, AV.sl false n4 c5, AV.sl false n6 c7], AV.tk id10 n8 c9, AV.int IntKind.i64 i11] h
      (retE Q) =
    bif decide (i11 < (↑n6 : Int)) then
      ((0 : Int) ≤ i11 ∧ i11 < (↑n6 : Int)) ∧
        ∃ (i12 : Int),
          ∃ (i13 : Int),
            ∃ (s14 : List UInt8),
              ∃ (n15 : Nat),
                ∃ (c16 : List AV),
                  ∃ (n17 : Nat),
                    ∃ (c18 : List AV),
                      seg c7 (Int.toNat i11 * 6 + 1) 5 = some [AV.int IntKind.i64 i12, AV.int IntKind.i64 i13, AV.str s14, AV.sl false n15 c16, AV.sl false n17 c18] ∧
                        ∃ (h19 : Heap),
                          ∃ (n20 : Nat),
                            AppT Tryz.prog #[23, 23] h id10 n8 c9 (AV.sl true 1 [AV.int IntKind.i64 i12, AV.int IntKind.i64 i13, AV.str s14, AV.sl false n15 c16, AV.sl false n17 c18]) 1
                                [AV.int IntKind.i64 i12, AV.int IntKind.i64 i13, AV.str s14, AV.sl false n15 c16, AV.sl false n17 c18] h19 n20 ∧
                              LabelP Tryz.prog cfg { ptr := false, sl := 0 } 147 9
                                [AV.box [AV.int IntKind.i64 i1, AV.int IntKind.i64 i2, AV.str s3, AV.sl false n4 c5, AV.sl false n6 c7],
                                  AV.tk n20 (n8 + 1) (c9 ++ [AV.int IntKind.i64 i12, AV.int IntKind.i64 i13, AV.str s14, AV.sl false n15 c16, AV.sl false n17 c18]),
                                  AV.int IntKind.i64 (IntKind.wrap IntKind.i64 (i11 + (1 : Int)))]
                                h19 (retE Q)
    else ∃ (v21 : AV), eraseW false (resH h 8) (AV.tk id10 n8 c9) = some v21 ∧ Q v21 := by intros; kernel_rfl

theorem n148 : ∀ (s1 : List UInt8) (i2 i3 : Int) (Q : AV → Prop),
  BodyP Tryz.prog cfg { ptr := false, sl := 0 } 148 [AV.str s1, AV.int IntKind.i64 i2, AV.int IntKind.i64 i3] [] (retE Q) =
    bif decide (IntKind.wrap IntKind.i64 (i2 + i3) > (↑(List.length s1) : Int)) then Q (AV.bool false)
    else LabelP Tryz.prog cfg { ptr := false, sl := 0 } 148 4 [AV.str s1, AV.int IntKind.i64 i2, AV.int IntKind.i64 i3, AV.int IntKind.i64 0] [] (retE Q) := by intros; kernel_rfl

theorem l148_4 : ∀ (s1 : List UInt8) (i2 i3 i4 : Int) (h : Heap) (Q : AV → Prop),
  LabelB Tryz.prog cfg { ptr := false, sl := 0 } 148 4 [AV.str s1, AV.int IntKind.i64 i2, AV.int IntKind.i64 i3, AV.int IntKind.i64 i4] h (retE Q) =
    bif decide (i4 < i3) then
      ((0 : Int) ≤ IntKind.wrap IntKind.i64 (i2 + i4) ∧ IntKind.wrap IntKind.i64 (i2 + i4) < (↑(List.length s1) : Int)) ∧
        ((!decide ((↑(UInt8.toNat (List.getD s1 (Int.toNat (IntKind.wrap IntKind.i64 (i2 + i4))) 0)) : Int) < (128 : Int)) && true) = true →
            (0 : Int) ≤ IntKind.wrap IntKind.i64 (i2 + i4) ∧ IntKind.wrap IntKind.i64 (i2 + i4) < (↑(List.length s1) : Int)) ∧
          bif
              bif decide ((↑(UInt8.toNat (List.getD s1 (Int.toNat (IntKind.wrap IntKind.i64 (i2 + i4))) 0)) : Int) < (128 : Int)) then true
              else decide ((↑(UInt8.toNat (List.getD s1 (Int.toNat (IntKind.wrap IntKind.i64 (i2 + i4))) 0)) : Int) > (191 : Int)) then
            Q (AV.bool false)
          else LabelP Tryz.prog cfg { ptr := false, sl := 0 } 148 4 [AV.str s1, AV.int IntKind.i64 i2, AV.int IntKind.i64 i3, AV.int IntKind.i64 (IntKind.wrap IntKind.i64 (i4 + (1 : Int)))] h (retE Q)
    else Q (AV.bool true) := by intros; kernel_rfl

theorem n149 : ∀ (s1 : List UInt8) (Q : AV → Prop),
  BodyP Tryz.prog cfg { ptr := false, sl := 0 } 149 [AV.str s1] [] (retE Q) =
    bif bif decide ((↑(List.length s1) : Int) < (1 : Int)) then true else decide ((↑(List.length s1) : Int) > (128 : Int)) then Q (AV.bool false)
    else LabelP Tryz.prog cfg { ptr := false, sl := 0 } 149 4 [AV.str s1, AV.int IntKind.i64 0] [] (retE Q) := by intros; kernel_rfl

theorem l149_4 : ∀ (s1 : List UInt8) (i2 : Int) (h : Heap) (Q : AV → Prop),
  LabelB Tryz.prog cfg { ptr := false, sl := 0 } 149 4 [AV.str s1, AV.int IntKind.i64 i2] h (retE Q) =
    bif decide (i2 < (↑(List.length s1) : Int)) then
      ((0 : Int) ≤ i2 ∧ i2 < (↑(List.length s1) : Int)) ∧
        ((!decide ((↑(UInt8.toNat (List.getD s1 (Int.toNat i2) 0)) : Int) < (32 : Int)) && true) = true → (0 : Int) ≤ i2 ∧ i2 < (↑(List.length s1) : Int)) ∧
          bif bif decide ((↑(UInt8.toNat (List.getD s1 (Int.toNat i2) 0)) : Int) < (32 : Int)) then true else decide ((↑(UInt8.toNat (List.getD s1 (Int.toNat i2) 0)) : Int) > (126 : Int)) then Q (AV.bool false)
          else LabelP Tryz.prog cfg { ptr := false, sl := 0 } 149 4 [AV.str s1, AV.int IntKind.i64 (IntKind.wrap IntKind.i64 (i2 + (1 : Int)))] h (retE Q)
    else Q (AV.bool true) := by intros; kernel_rfl

theorem n22 : ∀ (i1 i2 : Int) (s3 : List UInt8) (n4 : Nat) (c5 : List AV) (n6 : Nat) (c7 : List AV) (i8 i9 : Int) (s10 : List UInt8) (n11 : Nat) (c12 : List AV) (n13 : Nat) (c14 : List AV) (Q : AV → Prop),
  BodyP Tryz.prog cfg { ptr := false, sl := 0 } 22
      [AV.agg [AV.int IntKind.i64 i1, AV.int IntKind.i64 i2, AV.str s3, AV.sl false n4 c5, AV.sl false n6 c7], AV.agg [AV.int IntKind.i64 i8, AV.int IntKind.i64 i9, AV.str s10, AV.sl false n11 c12, AV.sl false n13 c14]] []
      (retE Q) =
    bif bif bif bif bif i1 != i8 then true else i2 != i9 then true else !s3 == s10 then true else (↑n4 : Int) != (↑n11 : Int) then true else (↑n6 : Int) != (↑n13 : Int) then Q (AV.bool false)
    else
      LabelP Tryz.prog cfg { ptr := false, sl := 0 } 22 4
        [AV.box [AV.int IntKind.i64 i1, AV.int IntKind.i64 i2, AV.str s3, AV.sl false n4 c5, AV.sl false n6 c7], AV.box [AV.int IntKind.i64 i8, AV.int IntKind.i64 i9, AV.str s10, AV.sl false n11 c12, AV.sl false n13 c14],
          AV.int IntKind.i64 0]
        [] (retE Q) := by intros; kernel_rfl

theorem l22_4 : ∀ (i1 i2 : Int) (s3 : List UInt8) (n4 : Nat) (c5 : List AV) (n6 : Nat) (c7 : List AV) (i8 i9 : Int) (s10 : List UInt8) (n11 : Nat) (c12 : List AV) (n13 : Nat) (c14 : List AV) (i15 : Int) (h : Heap) (Q : AV → Prop),
  LabelB Tryz.prog cfg { ptr := false, sl := 0 } 22 4
      [AV.box [AV.int IntKind.i64 i1, AV.int IntKind.i64 i2, AV.str s3, AV.sl false n4 c5, AV.sl false n6 c7], AV.box [AV.int IntKind.i64 i8, AV.int IntKind.i64 i9, AV.str s10, AV.sl false n11 c12, AV.sl false n13 c14],
        AV.int IntKind.i64 i15]
      h (retE Q) =
    bif decide (i15 < (↑n4 : Int)) then
      ((0 : Int) ≤ i15 ∧ i15 < (↑n4 : Int)) ∧
        ∃ (i16 : Int),
          ∃ (i17 : Int),
            ∃ (s18 : List UInt8),
              ∃ (n19 : Nat),
                ∃ (c20 : List AV),
                  ∃ (n21 : Nat),
                    ∃ (c22 : List AV),
                      seg c5 (Int.toNat i15 * 5) 5 = some [AV.int IntKind.i64 i16, AV.int IntKind.i64 i17, AV.str s18, AV.sl false n19 c20, AV.sl false n21 c22] ∧
                        ((0 : Int) ≤ i15 ∧ i15 < (↑n11 : Int)) ∧
                          ∃ (i23 : Int),
                            ∃ (i24 : Int),
                              ∃ (s25 : List UInt8),
                                ∃ (n26 : Nat),
                                  ∃ (c27 : List AV),
                                    ∃ (n28 : Nat),
                                      ∃ (c29 : List AV),
                                        seg c12 (Int.toNat i15 * 5) 5 = some [AV.int IntKind.i64 i23, AV.int IntKind.i64 i24, AV.str s25, AV.sl false n26 c27, AV.sl false n28 c29] ∧
                                          ∃ (b30 : Bool),
                                            PC Tryz.prog cfg 22
                                                [AV.agg [AV.int IntKind.i64 i16, AV.int IntKind.i64 i17, AV.str s18, AV.sl false n19 c20, AV.sl false n21 c22],
                                                  AV.agg [AV.int IntKind.i64 i23, AV.int IntKind.i64 i24, AV.str s25, AV.sl false n26 c27, AV.sl false n28 c29]]
                                                (AV.bool b30) ∧
                                              bif !b30 then Q (AV.bool false)
                                              else
                                                LabelP Tryz.prog cfg { ptr := false, sl := 0 } 22 4
                                                  [AV.box [AV.int IntKind.i64 i1, AV.int IntKind.i64 i2, AV.str s3, AV.sl false n4 c5, AV.sl false n6 c7],
                                                    AV.box [AV.int IntKind.i64 i8, AV.int IntKind.i64 i9, AV.str s10, AV.sl false n11 c12, AV.sl false n13 c14], AV.int IntKind.i64 (IntKind.wrap IntKind.i64 (i15 + (1 : Int)))]
                                                  h (retE Q)
    else
      LabelP Tryz.prog cfg { ptr := false, sl := 0 } 22 9
        [AV.box [AV.int IntKind.i64 i1, AV.int IntKind.i64 i2, AV.str s3, AV.sl false n4 c5, AV.sl false n6 c7], AV.box [AV.int IntKind.i64 i8, AV.int IntKind.i64 i9, AV.str s10, AV.sl false n11 c12, AV.sl false n13 c14],
          AV.int IntKind.i64 0]
        h (retE Q) := by intros; kernel_rfl

theorem l22_9 : ∀ (i1 i2 : Int) (s3 : List UInt8) (n4 : Nat) (c5 : List AV) (n6 : Nat) (c7 : List AV) (i8 i9 : Int) (s10 : List UInt8) (n11 : Nat) (c12 : List AV) (n13 : Nat) (c14 : List AV) (i15 : Int) (h : Heap) (Q : AV → Prop),
  LabelB Tryz.prog cfg { ptr := false, sl := 0 } 22 9
      [AV.box [AV.int IntKind.i64 i1, AV.int IntKind.i64 i2, AV.str s3, AV.sl false n4 c5, AV.sl false n6 c7], AV.box [AV.int IntKind.i64 i8, AV.int IntKind.i64 i9, AV.str s10, AV.sl false n11 c12, AV.sl false n13 c14],
        AV.int IntKind.i64 i15]
      h (retE Q) =
    bif decide (i15 < (↑n6 : Int)) then
      ((0 : Int) ≤ i15 ∧ i15 < (↑n6 : Int)) ∧
        ∃ (s16 : List UInt8),
          seg c7 (Int.toNat i15 * 6 + 0) 1 = some [AV.str s16] ∧
            ((0 : Int) ≤ i15 ∧ i15 < (↑n13 : Int)) ∧
              ∃ (s17 : List UInt8),
                seg c14 (Int.toNat i15 * 6 + 0) 1 = some [AV.str s17] ∧
                  ((!!s16 == s17 && true) = true → (0 : Int) ≤ i15 ∧ i15 < (↑n6 : Int)) ∧
                    ∃ (i18 : Int),
                      ∃ (i19 : Int),
                        ∃ (s20 : List UInt8),
                          ∃ (n21 : Nat),
                            ∃ (c22 : List AV),
                              ∃ (n23 : Nat),
                                ∃ (c24 : List AV),
                                  ((!!s16 == s17 && true) = true →
                                      seg c7 (Int.toNat i15 * 6 + 1) 5 = some [AV.int IntKind.i64 i18, AV.int IntKind.i64 i19, AV.str s20, AV.sl false n21 c22, AV.sl false n23 c24]) ∧
                                    ((!!s16 == s17 && true) = true → (0 : Int) ≤ i15 ∧ i15 < (↑n13 : Int)) ∧
                                      ∃ (i25 : Int),
                                        ∃ (i26 : Int),
                                          ∃ (s27 : List UInt8),
                                            ∃ (n28 : Nat),
                                              ∃ (c29 : List AV),
                                                ∃ (n30 : Nat),
                                                  ∃ (c31 : List AV),
                                                    ((!!s16 == s17 && true) = true →
                                                        seg c14 (Int.toNat i15 * 6 + 1) 5 = some [AV.int IntKind.i64 i25, AV.int IntKind.i64 i26, AV.str s27, AV.sl false n28 c29, AV.sl false n30 c31]) ∧
                                                      ∃ (b32 : Bool),
                                                        ((!!s16 == s17 && true) = true →
                                                            PC Tryz.prog cfg 22
                                                              [AV.agg [AV.int IntKind.i64 i18, AV.int IntKind.i64 i19, AV.str s20, AV.sl false n21 c22, AV.sl false n23 c24],
                                                                AV.agg [AV.int IntKind.i64 i25, AV.int IntKind.i64 i26, AV.str s27, AV.sl false n28 c29, AV.sl false n30 c31]]
                                                              (AV.bool b32)) ∧
                                                          bif bif !s16 == s17 then true else !b32 then Q (AV.bool false)
                                                          else
                                                            LabelP Tryz.prog cfg { ptr := false, sl := 0 } 22 9
                                                              [AV.box [AV.int IntKind.i64 i1, AV.int IntKind.i64 i2, AV.str s3, AV.sl false n4 c5, AV.sl false n6 c7],
                                                                AV.box [AV.int IntKind.i64 i8, AV.int IntKind.i64 i9, AV.str s10, AV.sl false n11 c12, AV.sl false n13 c14],
                                                                AV.int IntKind.i64 (IntKind.wrap IntKind.i64 (i15 + (1 : Int)))]
                                                              h (retE Q)
    else Q (AV.bool true) := by intros; kernel_rfl

theorem n12 : ∀ (i1 : Int) (n2 : Nat) (c3 : List AV) (s4 : List UInt8) (n5 : Nat) (c6 : List AV) (i7 i8 : Int) (s9 : List UInt8) (n10 : Nat) (c11 : List AV) (n12 : Nat) (c13 : List AV) (i14 : Int) (n15 : Nat) (c16 : List AV) (Q : AV → Prop),
  BodyP Tryz.prog cfg { ptr := false, sl := 0 } 12
      [AV.agg
          [AV.int IntKind.i64 i1, AV.sl false n2 c3, AV.str s4, AV.sl false n5 c6, AV.int IntKind.i64 i7, AV.int IntKind.i64 i8, AV.str s9, AV.sl false n10 c11, AV.sl false n12 c13, AV.int IntKind.i64 i14, AV.sl false n15 c16]]
      [] (retE Q) =
    ∃ (i17 : Int),
      ∃ (i18 : Int),
        PC Tryz.prog cfg 29
            [AV.agg
                [AV.int IntKind.i64 i1, AV.sl false n2 c3, AV.str s4, AV.sl false n5 c6, AV.int IntKind.i64 i7, AV.int IntKind.i64 i8, AV.str s9, AV.sl false n10 c11, AV.sl false n12 c13, AV.int IntKind.i64 i14,
                  AV.sl false n15 c16],
              AV.int IntKind.i64 1, AV.int IntKind.i64 1]
            (AV.tup [AV.int IntKind.i64 i17, AV.int IntKind.i64 i18]) ∧
          Q (AV.int IntKind.i64 i18) := by intros; kernel_rfl

theorem n29 : ∀ (i1 : Int) (n2 : Nat) (c3 : List AV) (s4 : List UInt8) (n5 : Nat) (c6 : List AV) (i7 i8 : Int) (s9 : List UInt8) (n10 : Nat) (c11 : List AV) (n12 : Nat) (c13 : List AV) (i14 : Int) (n15 : Nat) (c16 : List AV) (i17 i18 : Int)
  (Q : AV → Prop),
  BodyP Tryz.prog cfg { ptr := false, sl := 0 } 29
      [AV.agg
          [AV.int IntKind.i64 i1, AV.sl false n2 c3, AV.str s4, AV.sl false n5 c6, AV.int IntKind.i64 i7, AV.int IntKind.i64 i8, AV.str s9, AV.sl false n10 c11, AV.sl false n12 c13, AV.int IntKind.i64 i14, AV.sl false n15 c16],
        AV.int IntKind.i64 i17, AV.int IntKind.i64 i18]
      [] (retE Q) =
    bif bif decide (i18 > (16 : Int)) then true else decide (i17 > (256 : Int)) then ∃ (v19 : AV), some (AV.tup [AV.int IntKind.i64 i17, AV.int IntKind.i64 2]) = some v19 ∧ Q v19
    else
      ∃ (i20 : Int),
        PC Tryz.prog cfg 53
            [AV.agg
                [AV.int IntKind.i64 i1, AV.sl false n2 c3, AV.str s4, AV.sl false n5 c6, AV.int IntKind.i64 i7, AV.int IntKind.i64 i8, AV.str s9, AV.sl false n10 c11, AV.sl false n12 c13, AV.int IntKind.i64 i14,
                  AV.sl false n15 c16]]
            (AV.int IntKind.i64 i20) ∧
          bif i20 != (0 : Int) then ∃ (v21 : AV), some (AV.tup [AV.int IntKind.i64 i17, AV.int IntKind.i64 i20]) = some v21 ∧ Q v21
          else
            LabelP Tryz.prog cfg { ptr := false, sl := 0 } 29 7
              [AV.int IntKind.i64 i17, AV.int IntKind.i64 i18,
                AV.box
                  [AV.int IntKind.i64 i1, AV.sl false n2 c3, AV.str s4, AV.sl false n5 c6, AV.int IntKind.i64 i7, AV.int IntKind.i64 i8, AV.str s9, AV.sl false n10 c11, AV.sl false n12 c13, AV.int IntKind.i64 i14,
                    AV.sl false n15 c16],
                AV.int IntKind.i64 0]
              [] (retE Q) := by intros; kernel_rfl

theorem l29_7 : ∀ (i1 i2 i3 : Int) (n4 : Nat) (c5 : List AV) (s6 : List UInt8) (n7 : Nat) (c8 : List AV) (i9 i10 : Int) (s11 : List UInt8) (n12 : Nat) (c13 : List AV) (n14 : Nat) (c15 : List AV) (i16 : Int) (n17 : Nat) (c18 : List AV) (i19 : Int)
  (h : Heap) (Q : AV → Prop),
  LabelB Tryz.prog cfg { ptr := false, sl := 0 } 29 7
      [AV.int IntKind.i64 i1, AV.int IntKind.i64 i2,
        AV.box
          [AV.int IntKind.i64 i3, AV.sl false n4 c5, AV.str s6, AV.sl false n7 c8, AV.int IntKind.i64 i9, AV.int IntKind.i64 i10, AV.str s11, AV.sl false n12 c13, AV.sl false n14 c15, AV.int IntKind.i64 i16, AV.sl false n17 c18],
        AV.int IntKind.i64 i19]
      h (retE Q) =
    bif decide (i19 < (↑n17 : Int)) then
      ((0 : Int) ≤ i19 ∧ i19 < (↑n17 : Int)) ∧
        ∃ (i20 : Int),
          ∃ (n21 : Nat),
            ∃ (c22 : List AV),
              ∃ (s23 : List UInt8),
                ∃ (n24 : Nat),
                  ∃ (c25 : List AV),
                    ∃ (i26 : Int),
                      ∃ (i27 : Int),
                        ∃ (s28 : List UInt8),
                          ∃ (n29 : Nat),
                            ∃ (c30 : List AV),
                              ∃ (n31 : Nat),
                                ∃ (c32 : List AV),
                                  ∃ (i33 : Int),
                                    ∃ (n34 : Nat),
                                      ∃ (c35 : List AV),
                                        seg c18 (Int.toNat i19 * 11) 11 =
                                            some
                                              [AV.int IntKind.i64 i20, AV.sl false n21 c22, AV.str s23, AV.sl false n24 c25, AV.int IntKind.i64 i26, AV.int IntKind.i64 i27, AV.str s28, AV.sl false n29 c30, AV.sl false n31 c32,
                                                AV.int IntKind.i64 i33, AV.sl false n34 c35] ∧
                                          ∃ (i36 : Int),
                                            ∃ (i37 : Int),
                                              PC Tryz.prog cfg 29
                                                  [AV.agg
                                                      [AV.int IntKind.i64 i20, AV.sl false n21 c22, AV.str s23, AV.sl false n24 c25, AV.int IntKind.i64 i26, AV.int IntKind.i64 i27, AV.str s28, AV.sl false n29 c30,
                                                        AV.sl false n31 c32, AV.int IntKind.i64 i33, AV.sl false n34 c35],
                                                    AV.int IntKind.i64 (IntKind.wrap IntKind.i64 (i1 + (1 : Int))), AV.int IntKind.i64 (IntKind.wrap IntKind.i64 (i2 + (1 : Int)))]
                                                  (AV.tup [AV.int IntKind.i64 i36, AV.int IntKind.i64 i37]) ∧
                                                bif i37 != (0 : Int) then ∃ (v38 : AV), some (AV.tup [AV.int IntKind.i64 i36, AV.int IntKind.i64 i37]) = some v38 ∧ Q v38
                                                else
                                                  LabelP Tryz.prog cfg { ptr := false, sl := 0 } 29 7
                                                    [AV.int IntKind.i64 i36, AV.int IntKind.i64 i2,
                                                      AV.box
                                                        [AV.int IntKind.i64 i3, AV.sl false n4 c5, AV.str s6, AV.sl false n7 c8, AV.int IntKind.i64 i9, AV.int IntKind.i64 i10, AV.str s11, AV.sl false n12 c13, AV.sl false n14 c15,
                                                          AV.int IntKind.i64 i16, AV.sl false n17 c18],
                                                      AV.int IntKind.i64 (IntKind.wrap IntKind.i64 (i19 + (1 : Int)))]
                                                    h (retE Q)
    else ∃ (v39 : AV), some (AV.tup [AV.int IntKind.i64 i1, AV.int IntKind.i64 0]) = some v39 ∧ Q v39 := by intros; kernel_rfl

theorem n53 : ∀ (i1 : Int) (n2 : Nat) (c3 : List AV) (s4 : List UInt8) (n5 : Nat) (c6 : List AV) (i7 i8 : Int) (s9 : List UInt8) (n10 : Nat) (c11 : List AV) (n12 : Nat) (c13 : List AV) (i14 : Int) (n15 : Nat) (c16 : List AV) (Q : AV → Prop),
  BodyP Tryz.prog cfg { ptr := false, sl := 0 } 53
      [AV.agg
          [AV.int IntKind.i64 i1, AV.sl false n2 c3, AV.str s4, AV.sl false n5 c6, AV.int IntKind.i64 i7, AV.int IntKind.i64 i8, AV.str s9, AV.sl false n10 c11, AV.sl false n12 c13, AV.int IntKind.i64 i14, AV.sl false n15 c16]]
      [] (retE Q) =
    ∃ (i17 : Int),
      (((!bif decide (i1 < (1 : Int)) then true else decide (i1 > (37 : Int))) && true) = true → PC Tryz.prog cfg 79 [AV.int IntKind.i64 i1] (AV.int IntKind.i64 i17)) ∧
        ∃ (i18 : Int),
          ((decide (i17 ≥ (0 : Int)) && ((!bif decide (i1 < (1 : Int)) then true else decide (i1 > (37 : Int))) && true)) = true → PC Tryz.prog cfg 79 [AV.int IntKind.i64 i1] (AV.int IntKind.i64 i18)) ∧
            bif
                bif bif bif decide (i1 < (1 : Int)) then true else decide (i1 > (37 : Int)) then true else bif decide (i17 ≥ (0 : Int)) then (↑n15 : Int) != i18 else false then true
                else bif i1 == (34 : Int) then bif (↑n15 : Int) != (↑n5 : Int) then true else (↑n15 : Int) == (0 : Int) else false then
              Q (AV.int IntKind.i64 11)
            else
              ∃ (b19 : Bool),
                ((i1 == (2 : Int) && true) = true → PC Tryz.prog cfg 86 [AV.sl false n2 c3] (AV.bool b19)) ∧
                  ∃ (b20 : Bool),
                    (((bif i1 == (3 : Int) then decide ((↑n2 : Int) > (0 : Int)) else false) && ((!bif i1 == (2 : Int) then !b19 else false) && true)) = true → PC Tryz.prog cfg 86 [AV.sl false n2 c3] (AV.bool b20)) ∧
                      bif bif bif i1 == (2 : Int) then !b19 else false then true else bif bif i1 == (3 : Int) then decide ((↑n2 : Int) > (0 : Int)) else false then !b20 else false then Q (AV.int IntKind.i64 10)
                      else
                        ∃ (b21 : Bool),
                          (((bif bif i1 == (3 : Int) then true else i1 == (32 : Int) then true else i1 == (33 : Int)) && true) = true → PC Tryz.prog cfg 87 [AV.str s4] (AV.bool b21)) ∧
                            ∃ (b22 : Bool),
                              ((i1 == (34 : Int) && ((!bif bif bif i1 == (3 : Int) then true else i1 == (32 : Int) then true else i1 == (33 : Int) then !b21 else false) && true)) = true →
                                  PC Tryz.prog cfg 88 [AV.sl false n5 c6] (AV.bool b22)) ∧
                                bif bif bif bif bif i1 == (3 : Int) then true else i1 == (32 : Int) then true else i1 == (33 : Int) then !b21 else false then true else bif i1 == (34 : Int) then !b22 else false then
                                  Q (AV.int IntKind.i64 9)
                                else
                                  ∃ (b23 : Bool),
                                    ((i1 == (1 : Int) && true) = true → PC Tryz.prog cfg 89 [AV.agg [AV.int IntKind.i64 i7, AV.int IntKind.i64 i8, AV.str s9, AV.sl false n10 c11, AV.sl false n12 c13]] (AV.bool b23)) ∧
                                      bif bif i1 == (1 : Int) then !b23 else false then Q (AV.int IntKind.i64 8)
                                      else
                                        ∃ (b24 : Bool),
                                          ((i1 != (1 : Int) &&
                                                  ((!bif
                                                          bif bif bif i1 != (2 : Int) then i1 != (3 : Int) else false then decide ((↑n2 : Int) > (0 : Int)) else false then true
                                                          else bif !bif bif i1 == (3 : Int) then true else i1 == (32 : Int) then true else i1 == (33 : Int) then !s4 == [] else false then
                                                        true
                                                      else bif i1 != (34 : Int) then decide ((↑n5 : Int) > (0 : Int)) else false) &&
                                                    true)) =
                                                true →
                                              PC Tryz.prog cfg 22
                                                [AV.agg [AV.int IntKind.i64 i7, AV.int IntKind.i64 i8, AV.str s9, AV.sl false n10 c11, AV.sl false n12 c13],
                                                  AV.agg [AV.int IntKind.i64 0, AV.int IntKind.i64 0, AV.str [], AV.nilsl, AV.nilsl]]
                                                (AV.bool b24)) ∧
                                            bif
                                                bif
                                                    bif
                                                        bif
                                                            bif bif bif i1 != (2 : Int) then i1 != (3 : Int) else false then decide ((↑n2 : Int) > (0 : Int)) else false then true
                                                            else bif !bif bif i1 == (3 : Int) then true else i1 == (32 : Int) then true else i1 == (33 : Int) then !s4 == [] else false then
                                                          true
                                                        else bif i1 != (34 : Int) then decide ((↑n5 : Int) > (0 : Int)) else false then
                                                      true
                                                    else bif i1 != (1 : Int) then !b24 else false then
                                                  true
                                                else i14 != (0 : Int) then
                                              Q (AV.int IntKind.i64 4)
                                            else Q (AV.int IntKind.i64 0) := by intros; kernel_rfl

theorem n86 : ∀ (n1 : Nat) (c2 : List AV) (Q : AV → Prop),
  BodyP Tryz.prog cfg { ptr := false, sl := 0 } 86 [AV.sl false n1 c2] [] (retE Q) =
    bif bif decide ((↑n1 : Int) < (1 : Int)) then true else decide ((↑n1 : Int) > (16 : Int)) then Q (AV.bool false)
    else LabelP Tryz.prog cfg { ptr := false, sl := 0 } 86 4 [AV.sl false n1 c2, AV.int IntKind.i64 0] [] (retE Q) := by intros; kernel_rfl

theorem l86_4 : ∀ (n1 : Nat) (c2 : List AV) (i3 : Int) (h : Heap) (Q : AV → Prop),
  LabelB Tryz.prog cfg { ptr := false, sl := 0 } 86 4 [AV.sl false n1 c2, AV.int IntKind.i64 i3] h (retE Q) =
    bif decide (i3 < (↑n1 : Int)) then
      ((0 : Int) ≤ i3 ∧ i3 < (↑n1 : Int)) ∧
        ∃ (s4 : List UInt8),
          seg c2 (Int.toNat i3 * 1) 1 = some [AV.str s4] ∧
            ∃ (b5 : Bool),
              PC Tryz.prog cfg 87 [AV.str s4] (AV.bool b5) ∧
                bif !b5 then Q (AV.bool false) else LabelP Tryz.prog cfg { ptr := false, sl := 0 } 86 4 [AV.sl false n1 c2, AV.int IntKind.i64 (IntKind.wrap IntKind.i64 (i3 + (1 : Int)))] h (retE Q)
    else Q (AV.bool true) := by intros; kernel_rfl

theorem n87 : ∀ (s1 : List UInt8) (Q : AV → Prop),
  BodyP Tryz.prog cfg { ptr := false, sl := 0 } 87 [AV.str s1] [] (retE Q) =
    ((((!bif decide ((↑(List.length s1) : Int) < (1 : Int)) then true else decide ((↑(List.length s1) : Int) > (32 : Int))) && true) = true → (0 : Int) ≤ (0 : Int) ∧ (0 : Int) < (↑(List.length s1) : Int)) ∧
      bif bif bif decide ((↑(List.length s1) : Int) < (1 : Int)) then true else decide ((↑(List.length s1) : Int) > (32 : Int)) then true else (↑(UInt8.toNat (List.getD s1 0 0)) : Int) == (36 : Int) then
        Q (AV.bool false)
      else LabelP Tryz.prog cfg { ptr := false, sl := 0 } 87 4 [AV.str s1, AV.int IntKind.i64 0] [] (retE Q)) := by intros; kernel_rfl

theorem l87_4 : ∀ (s1 : List UInt8) (i2 : Int) (h : Heap) (Q : AV → Prop),
  LabelB Tryz.prog cfg { ptr := false, sl := 0 } 87 4 [AV.str s1, AV.int IntKind.i64 i2] h (retE Q) =
    bif decide (i2 < (↑(List.length s1) : Int)) then
      ((0 : Int) ≤ i2 ∧ i2 < (↑(List.length s1) : Int)) ∧
        ((!decide ((↑(UInt8.toNat (List.getD s1 (Int.toNat i2) 0)) : Int) < (33 : Int)) && true) = true → (0 : Int) ≤ i2 ∧ i2 < (↑(List.length s1) : Int)) ∧
          (((!bif decide ((↑(UInt8.toNat (List.getD s1 (Int.toNat i2) 0)) : Int) < (33 : Int)) then true else decide ((↑(UInt8.toNat (List.getD s1 (Int.toNat i2) 0)) : Int) > (126 : Int))) && true) = true →
              (0 : Int) ≤ i2 ∧ i2 < (↑(List.length s1) : Int)) ∧
            bif
                bif bif decide ((↑(UInt8.toNat (List.getD s1 (Int.toNat i2) 0)) : Int) < (33 : Int)) then true else decide ((↑(UInt8.toNat (List.getD s1 (Int.toNat i2) 0)) : Int) > (126 : Int)) then true
                else (↑(UInt8.toNat (List.getD s1 (Int.toNat i2) 0)) : Int) == (46 : Int) then
              Q (AV.bool false)
            else LabelP Tryz.prog cfg { ptr := false, sl := 0 } 87 4 [AV.str s1, AV.int IntKind.i64 (IntKind.wrap IntKind.i64 (i2 + (1 : Int)))] h (retE Q)
    else Q (AV.bool true) := by intros; kernel_rfl

theorem n88 : ∀ (n1 : Nat) (c2 : List AV) (Q : AV → Prop),
  BodyP Tryz.prog cfg { ptr := false, sl := 0 } 88 [AV.sl false n1 c2] [] (retE Q) =
    LabelP Tryz.prog cfg { ptr := false, sl := 0 } 88 2 [AV.sl false n1 c2, AV.int IntKind.i64 0] [] (retE Q) := by intros; kernel_rfl

theorem l88_2 : ∀ (n1 : Nat) (c2 : List AV) (i3 : Int) (h : Heap) (Q : AV → Prop),
  LabelB Tryz.prog cfg { ptr := false, sl := 0 } 88 2 [AV.sl false n1 c2, AV.int IntKind.i64 i3] h (retE Q) =
    bif decide (i3 < (↑n1 : Int)) then
      ((0 : Int) ≤ i3 ∧ i3 < (↑n1 : Int)) ∧
        ∃ (s4 : List UInt8),
          seg c2 (Int.toNat i3 * 1) 1 = some [AV.str s4] ∧
            ∃ (b5 : Bool),
              PC Tryz.prog cfg 87 [AV.str s4] (AV.bool b5) ∧
                bif !b5 then Q (AV.bool false) else LabelP Tryz.prog cfg { ptr := false, sl := 0 } 88 7 [AV.sl false n1 c2, AV.int IntKind.i64 i3, AV.int IntKind.i64 0] h (retE Q)
    else Q (AV.bool true) := by intros; kernel_rfl

theorem l88_7 : ∀ (n1 : Nat) (c2 : List AV) (i3 i4 : Int) (h : Heap) (Q : AV → Prop),
  LabelB Tryz.prog cfg { ptr := false, sl := 0 } 88 7 [AV.sl false n1 c2, AV.int IntKind.i64 i3, AV.int IntKind.i64 i4] h (retE Q) =
    bif decide (i4 < i3) then
      ((0 : Int) ≤ i4 ∧ i4 < (↑n1 : Int)) ∧
        ∃ (s5 : List UInt8),
          seg c2 (Int.toNat i4 * 1) 1 = some [AV.str s5] ∧
            ((0 : Int) ≤ i3 ∧ i3 < (↑n1 : Int)) ∧
              ∃ (s6 : List UInt8),
                seg c2 (Int.toNat i3 * 1) 1 = some [AV.str s6] ∧
                  bif s5 == s6 then Q (AV.bool false)
                  else LabelP Tryz.prog cfg { ptr := false, sl := 0 } 88 7 [AV.sl false n1 c2, AV.int IntKind.i64 i3, AV.int IntKind.i64 (IntKind.wrap IntKind.i64 (i4 + (1 : Int)))] h (retE Q)
    else LabelP Tryz.prog cfg { ptr := false, sl := 0 } 88 2 [AV.sl false n1 c2, AV.int IntKind.i64 (IntKind.wrap IntKind.i64 (i3 + (1 : Int)))] h (retE Q) := by intros; kernel_rfl

theorem n89 : ∀ (i1 i2 : Int) (s3 : List UInt8) (n4 : Nat) (c5 : List AV) (n6 : Nat) (c7 : List AV) (Q : AV → Prop),
  BodyP Tryz.prog cfg { ptr := false, sl := 0 } 89 [AV.agg [AV.int IntKind.i64 i1, AV.int IntKind.i64 i2, AV.str s3, AV.sl false n4 c5, AV.sl false n6 c7]] [] (retE Q) =
    ∃ (i8 : Int),
      PC Tryz.prog cfg 69 [AV.agg [AV.int IntKind.i64 i1, AV.int IntKind.i64 i2, AV.str s3, AV.sl false n4 c5, AV.sl false n6 c7]] (AV.int IntKind.i64 i8) ∧
        ∃ (i9 : Int),
          ((decide (i8 ≤ (16 : Int)) && true) = true → PC Tryz.prog cfg 70 [AV.agg [AV.int IntKind.i64 i1, AV.int IntKind.i64 i2, AV.str s3, AV.sl false n4 c5, AV.sl false n6 c7]] (AV.int IntKind.i64 i9)) ∧
            ∃ (b10 : Bool),
              (((bif decide (i8 ≤ (16 : Int)) then decide (i9 ≤ (1024 : Int)) else false) && true) = true →
                  PC Tryz.prog cfg 71 [AV.agg [AV.int IntKind.i64 i1, AV.int IntKind.i64 i2, AV.str s3, AV.sl false n4 c5, AV.sl false n6 c7], AV.bool true] (AV.bool b10)) ∧
                Q (AV.bool (bif bif decide (i8 ≤ (16 : Int)) then decide (i9 ≤ (1024 : Int)) else false then b10 else false)) := by intros; kernel_rfl

theorem n138 : ∀ (i1 i2 : Int) (s3 : List UInt8) (n4 : Nat) (c5 : List AV) (n6 : Nat) (c7 : List AV) (i8 : Int) (Q : AV → Prop),
  BodyP Tryz.prog cfg { ptr := true, sl := 0 } 138 [AV.agg [AV.int IntKind.i64 i1, AV.int IntKind.i64 i2, AV.str s3, AV.sl false n4 c5, AV.sl false n6 c7], AV.int IntKind.i64 i8] [] (retE Q) =
    ∃ (i9 : Int),
      some [AV.int IntKind.i64 i8] = some [AV.int IntKind.i64 i9] ∧
        bif decide (i9 ≤ (1 : Int)) then ∃ (i10 : Int), some [AV.int IntKind.i64 i8] = some [AV.int IntKind.i64 i10] ∧ Q (AV.int IntKind.i64 i10)
        else
          ∃ (h11 : Heap),
            some (Eff.heap [some (AObj.arr [AV.int IntKind.i64 i8]), some (AObj.arr [AV.int IntKind.i64 1])] AV.undef) = some (Eff.heap h11 AV.undef) ∧
              ∃ (b12 : Bool),
                ∃ (h13 : Heap),
                  Call Tryz.prog cfg 142
                      [AV.agg [AV.int IntKind.i64 i1, AV.int IntKind.i64 i2, AV.str s3, AV.sl false n4 c5, AV.sl false n6 c7],
                        AV.fn (Fn.func 165) [AV.ptr (List.length [some (AObj.arr [AV.int IntKind.i64 i8])]) 0, AV.ptr 0 0]]
                      h11 (AV.bool b12) h13 ∧
                    ∃ (i14 : Int), readP Env.empty h13 (AV.ptr (List.length [some (AObj.arr [AV.int IntKind.i64 i8])]) 0) 1 = some [AV.int IntKind.i64 i14] ∧ Q (AV.int IntKind.i64 i14) := by intros; kernel_rfl

theorem n139 : ∀ (i1 i2 : Int) (s3 : List UInt8) (n4 : Nat) (c5 : List AV) (n6 : Nat) (c7 : List AV) (i8 i9 : Int) (Q : AV → Prop),
  BodyP Tryz.prog cfg { ptr := true, sl := 0 } 139 [AV.agg [AV.int IntKind.i64 i1, AV.int IntKind.i64 i2, AV.str s3, AV.sl false n4 c5, AV.sl false n6 c7], AV.int IntKind.i64 i8, AV.int IntKind.i64 i9] []
      (retE Q) =
    ∃ (h10 : Heap),
      some (Eff.heap [some (AObj.arr [AV.int IntKind.i64 i8]), some (AObj.arr [AV.int IntKind.i64 i9]), some (AObj.arr [AV.int IntKind.i64 1])] AV.undef) = some (Eff.heap h10 AV.undef) ∧
        ∃ (i11 : Int),
          readP Env.empty h10 (AV.ptr (List.length [some (AObj.arr [AV.int IntKind.i64 i8])]) 0) 1 = some [AV.int IntKind.i64 i11] ∧
            bif decide (i11 ≤ (0 : Int)) then
              ∃ (i12 : Int),
                readP Env.empty h10 (AV.ptr (List.length [some (AObj.arr [AV.int IntKind.i64 i8]), some (AObj.arr [AV.int IntKind.i64 i9])]) 0) 1 = some [AV.int IntKind.i64 i12] ∧
                  ∃ (i13 : Int), readP Env.empty h10 (AV.ptr 0 0) 1 = some [AV.int IntKind.i64 i13] ∧ Q (AV.int IntKind.i64 (if i13 < i12 then i13 else i12))
            else
              ∃ (b14 : Bool),
                ∃ (h15 : Heap),
                  Call Tryz.prog cfg 142
                      [AV.agg [AV.int IntKind.i64 i1, AV.int IntKind.i64 i2, AV.str s3, AV.sl false n4 c5, AV.sl false n6 c7],
                        AV.fn (Fn.func 166)
                          [AV.ptr (List.length [some (AObj.arr [AV.int IntKind.i64 i8]), some (AObj.arr [AV.int IntKind.i64 i9])]) 0, AV.ptr 0 0,
                            AV.ptr (List.length [some (AObj.arr [AV.int IntKind.i64 i8])]) 0]]
                      h10 (AV.bool b14) h15 ∧
                    ∃ (i16 : Int),
                      readP Env.empty h15 (AV.ptr (List.length [some (AObj.arr [AV.int IntKind.i64 i8]), some (AObj.arr [AV.int IntKind.i64 i9])]) 0) 1 = some [AV.int IntKind.i64 i16] ∧
                        ∃ (i17 : Int), readP Env.empty h15 (AV.ptr 0 0) 1 = some [AV.int IntKind.i64 i17] ∧ Q (AV.int IntKind.i64 (if i17 < i16 then i17 else i16)) := by intros; kernel_rfl

theorem n142_106 : ∀ (i1 i2 : Int) (s3 : List UInt8) (n4 : Nat) (c5 : List AV) (n6 : Nat) (c7 c8 : List AV) (h : Heap) (Q : AV → Heap → Prop),
  BodyP Tryz.prog cfg { ptr := false, sl := 0 } 142 [AV.agg [AV.int IntKind.i64 i1, AV.int IntKind.i64 i2, AV.str s3, AV.sl false n4 c5, AV.sl false n6 c7], AV.fn (Fn.func 106) c8] h Q =
    bif i1 == (6 : Int) then
      LabelP Tryz.prog cfg { ptr := false, sl := 0 } 142 3
        [AV.fn (Fn.func 106) c8, AV.box [AV.int IntKind.i64 i1, AV.int IntKind.i64 i2, AV.str s3, AV.sl false n4 c5, AV.sl false n6 c7], AV.sl false n4 c5, AV.int IntKind.i64 (↑n4 : Int), AV.int IntKind.i64 0] h Q
    else
      bif i1 == (5 : Int) then LabelP Tryz.prog cfg { ptr := false, sl := 0 } 142 10 [AV.fn (Fn.func 106) c8, AV.sl false n6 c7, AV.int IntKind.i64 (↑n6 : Int), AV.int IntKind.i64 0] h Q
      else Q (AV.bool true) h := by intros; kernel_rfl

theorem l142_3_106 : ∀ (c1 : List AV) (i2 i3 : Int) (s4 : List UInt8) (n5 : Nat) (c6 : List AV) (n7 : Nat) (c8 : List AV) (n9 : Nat) (c10 : List AV) (i11 i12 : Int) (h : Heap) (Q : AV → Heap → Prop),
  LabelB Tryz.prog cfg { ptr := false, sl := 0 } 142 3
      [AV.fn (Fn.func 106) c1, AV.box [AV.int IntKind.i64 i2, AV.int IntKind.i64 i3, AV.str s4, AV.sl false n5 c6, AV.sl false n7 c8], AV.sl false n9 c10, AV.int IntKind.i64 i11, AV.int IntKind.i64 i12] h Q =
    bif decide (i12 < i11) then
      ((0 : Int) ≤ i12 ∧ i12 < (↑n9 : Int)) ∧
        ∃ (i13 : Int),
          ∃ (i14 : Int),
            ∃ (s15 : List UInt8),
              ∃ (n16 : Nat),
                ∃ (c17 : List AV),
                  ∃ (n18 : Nat),
                    ∃ (c19 : List AV),
                      seg c10 (Int.toNat i12 * 5) 5 = some [AV.int IntKind.i64 i13, AV.int IntKind.i64 i14, AV.str s15, AV.sl false n16 c17, AV.sl false n18 c19] ∧
                        ∃ (b20 : Bool),
                          PC Tryz.prog cfg 106 (AV.agg [AV.int IntKind.i64 i13, AV.int IntKind.i64 i14, AV.str s15, AV.sl false n16 c17, AV.sl false n18 c19] :: c1) (AV.bool b20) ∧
                            bif !b20 then Q (AV.bool false) h
                            else
                              LabelP Tryz.prog cfg { ptr := false, sl := 0 } 142 3
                                [AV.fn (Fn.func 106) c1, AV.box [AV.int IntKind.i64 i2, AV.int IntKind.i64 i3, AV.str s4, AV.sl false n5 c6, AV.sl false n7 c8], AV.sl false n9 c10, AV.int IntKind.i64 i11,
                                  AV.int IntKind.i64 (IntKind.wrap IntKind.i64 (i12 + (1 : Int)))]
                                h Q
    else
      bif i2 == (5 : Int) then LabelP Tryz.prog cfg { ptr := false, sl := 0 } 142 10 [AV.fn (Fn.func 106) c1, AV.sl false n7 c8, AV.int IntKind.i64 (↑n7 : Int), AV.int IntKind.i64 0] h Q
      else Q (AV.bool true) h := by intros; kernel_rfl

theorem l142_10_106 : ∀ (c1 : List AV) (n2 : Nat) (c3 : List AV) (i4 i5 : Int) (h : Heap) (Q : AV → Heap → Prop),
  LabelB Tryz.prog cfg { ptr := false, sl := 0 } 142 10 [AV.fn (Fn.func 106) c1, AV.sl false n2 c3, AV.int IntKind.i64 i4, AV.int IntKind.i64 i5] h Q =
    bif decide (i5 < i4) then
      ((0 : Int) ≤ i5 ∧ i5 < (↑n2 : Int)) ∧
        ∃ (s6 : List UInt8),
          ∃ (i7 : Int),
            ∃ (i8 : Int),
              ∃ (s9 : List UInt8),
                ∃ (n10 : Nat),
                  ∃ (c11 : List AV),
                    ∃ (n12 : Nat),
                      ∃ (c13 : List AV),
                        seg c3 (Int.toNat i5 * 6) 6 = some [AV.str s6, AV.int IntKind.i64 i7, AV.int IntKind.i64 i8, AV.str s9, AV.sl false n10 c11, AV.sl false n12 c13] ∧
                          ∃ (b14 : Bool),
                            PC Tryz.prog cfg 106 (AV.agg [AV.int IntKind.i64 i7, AV.int IntKind.i64 i8, AV.str s9, AV.sl false n10 c11, AV.sl false n12 c13] :: c1) (AV.bool b14) ∧
                              bif !b14 then Q (AV.bool false) h
                              else
                                LabelP Tryz.prog cfg { ptr := false, sl := 0 } 142 10
                                  [AV.fn (Fn.func 106) c1, AV.sl false n2 c3, AV.int IntKind.i64 i4, AV.int IntKind.i64 (IntKind.wrap IntKind.i64 (i5 + (1 : Int)))] h Q
    else Q (AV.bool true) h := by intros; kernel_rfl

theorem n142_165 : ∀ (i1 i2 : Int) (s3 : List UInt8) (n4 : Nat) (c5 : List AV) (n6 : Nat) (c7 c8 : List AV) (h : Heap) (Q : AV → Heap → Prop),
  BodyP Tryz.prog cfg { ptr := false, sl := 0 } 142 [AV.agg [AV.int IntKind.i64 i1, AV.int IntKind.i64 i2, AV.str s3, AV.sl false n4 c5, AV.sl false n6 c7], AV.fn (Fn.func 165) c8] h Q =
    bif i1 == (6 : Int) then
      LabelP Tryz.prog cfg { ptr := false, sl := 0 } 142 3
        [AV.fn (Fn.func 165) c8, AV.box [AV.int IntKind.i64 i1, AV.int IntKind.i64 i2, AV.str s3, AV.sl false n4 c5, AV.sl false n6 c7], AV.sl false n4 c5, AV.int IntKind.i64 (↑n4 : Int), AV.int IntKind.i64 0] h Q
    else
      bif i1 == (5 : Int) then LabelP Tryz.prog cfg { ptr := false, sl := 0 } 142 10 [AV.fn (Fn.func 165) c8, AV.sl false n6 c7, AV.int IntKind.i64 (↑n6 : Int), AV.int IntKind.i64 0] h Q
      else Q (AV.bool true) h := by intros; kernel_rfl

theorem l142_3_165 : ∀ (c1 : List AV) (i2 i3 : Int) (s4 : List UInt8) (n5 : Nat) (c6 : List AV) (n7 : Nat) (c8 : List AV) (n9 : Nat) (c10 : List AV) (i11 i12 : Int) (h : Heap) (Q : AV → Heap → Prop),
  LabelB Tryz.prog cfg { ptr := false, sl := 0 } 142 3
      [AV.fn (Fn.func 165) c1, AV.box [AV.int IntKind.i64 i2, AV.int IntKind.i64 i3, AV.str s4, AV.sl false n5 c6, AV.sl false n7 c8], AV.sl false n9 c10, AV.int IntKind.i64 i11, AV.int IntKind.i64 i12] h Q =
    bif decide (i12 < i11) then
      ((0 : Int) ≤ i12 ∧ i12 < (↑n9 : Int)) ∧
        ∃ (i13 : Int),
          ∃ (i14 : Int),
            ∃ (s15 : List UInt8),
              ∃ (n16 : Nat),
                ∃ (c17 : List AV),
                  ∃ (n18 : Nat),
                    ∃ (c19 : List AV),
                      seg c10 (Int.toNat i12 * 5) 5 = some [AV.int IntKind.i64 i13, AV.int IntKind.i64 i14, AV.str s15, AV.sl false n16 c17, AV.sl false n18 c19] ∧
                        ∃ (b20 : Bool),
                          ∃ (h21 : Heap),
                            Call Tryz.prog cfg 165 (AV.agg [AV.int IntKind.i64 i13, AV.int IntKind.i64 i14, AV.str s15, AV.sl false n16 c17, AV.sl false n18 c19] :: c1) h (AV.bool b20) h21 ∧
                              bif !b20 then Q (AV.bool false) h21
                              else
                                LabelP Tryz.prog cfg { ptr := false, sl := 0 } 142 3
                                  [AV.fn (Fn.func 165) c1, AV.box [AV.int IntKind.i64 i2, AV.int IntKind.i64 i3, AV.str s4, AV.sl false n5 c6, AV.sl false n7 c8], AV.sl false n9 c10, AV.int IntKind.i64 i11,
                                    AV.int IntKind.i64 (IntKind.wrap IntKind.i64 (i12 + (1 : Int)))]
                                  h21 Q
    else
      bif i2 == (5 : Int) then LabelP Tryz.prog cfg { ptr := false, sl := 0 } 142 10 [AV.fn (Fn.func 165) c1, AV.sl false n7 c8, AV.int IntKind.i64 (↑n7 : Int), AV.int IntKind.i64 0] h Q
      else Q (AV.bool true) h := by intros; kernel_rfl

theorem l142_10_165 : ∀ (c1 : List AV) (n2 : Nat) (c3 : List AV) (i4 i5 : Int) (h : Heap) (Q : AV → Heap → Prop),
  LabelB Tryz.prog cfg { ptr := false, sl := 0 } 142 10 [AV.fn (Fn.func 165) c1, AV.sl false n2 c3, AV.int IntKind.i64 i4, AV.int IntKind.i64 i5] h Q =
    bif decide (i5 < i4) then
      ((0 : Int) ≤ i5 ∧ i5 < (↑n2 : Int)) ∧
        ∃ (s6 : List UInt8),
          ∃ (i7 : Int),
            ∃ (i8 : Int),
              ∃ (s9 : List UInt8),
                ∃ (n10 : Nat),
                  ∃ (c11 : List AV),
                    ∃ (n12 : Nat),
                      ∃ (c13 : List AV),
                        seg c3 (Int.toNat i5 * 6) 6 = some [AV.str s6, AV.int IntKind.i64 i7, AV.int IntKind.i64 i8, AV.str s9, AV.sl false n10 c11, AV.sl false n12 c13] ∧
                          ∃ (b14 : Bool),
                            ∃ (h15 : Heap),
                              Call Tryz.prog cfg 165 (AV.agg [AV.int IntKind.i64 i7, AV.int IntKind.i64 i8, AV.str s9, AV.sl false n10 c11, AV.sl false n12 c13] :: c1) h (AV.bool b14) h15 ∧
                                bif !b14 then Q (AV.bool false) h15
                                else
                                  LabelP Tryz.prog cfg { ptr := false, sl := 0 } 142 10
                                    [AV.fn (Fn.func 165) c1, AV.sl false n2 c3, AV.int IntKind.i64 i4, AV.int IntKind.i64 (IntKind.wrap IntKind.i64 (i5 + (1 : Int)))] h15 Q
    else Q (AV.bool true) h := by intros; kernel_rfl

theorem n142_166 : ∀ (i1 i2 : Int) (s3 : List UInt8) (n4 : Nat) (c5 : List AV) (n6 : Nat) (c7 c8 : List AV) (h : Heap) (Q : AV → Heap → Prop),
  BodyP Tryz.prog cfg { ptr := false, sl := 0 } 142 [AV.agg [AV.int IntKind.i64 i1, AV.int IntKind.i64 i2, AV.str s3, AV.sl false n4 c5, AV.sl false n6 c7], AV.fn (Fn.func 166) c8] h Q =
    bif i1 == (6 : Int) then
      LabelP Tryz.prog cfg { ptr := false, sl := 0 } 142 3
        [AV.fn (Fn.func 166) c8, AV.box [AV.int IntKind.i64 i1, AV.int IntKind.i64 i2, AV.str s3, AV.sl false n4 c5, AV.sl false n6 c7], AV.sl false n4 c5, AV.int IntKind.i64 (↑n4 : Int), AV.int IntKind.i64 0] h Q
    else
      bif i1 == (5 : Int) then LabelP Tryz.prog cfg { ptr := false, sl := 0 } 142 10 [AV.fn (Fn.func 166) c8, AV.sl false n6 c7, AV.int IntKind.i64 (↑n6 : Int), AV.int IntKind.i64 0] h Q
      else Q (AV.bool true) h := by intros; kernel_rfl

theorem l142_3_166 : ∀ (c1 : List AV) (i2 i3 : Int) (s4 : List UInt8) (n5 : Nat) (c6 : List AV) (n7 : Nat) (c8 : List AV) (n9 : Nat) (c10 : List AV) (i11 i12 : Int) (h : Heap) (Q : AV → Heap → Prop),
  LabelB Tryz.prog cfg { ptr := false, sl := 0 } 142 3
      [AV.fn (Fn.func 166) c1, AV.box [AV.int IntKind.i64 i2, AV.int IntKind.i64 i3, AV.str s4, AV.sl false n5 c6, AV.sl false n7 c8], AV.sl false n9 c10, AV.int IntKind.i64 i11, AV.int IntKind.i64 i12] h Q =
    bif decide (i12 < i11) then
      ((0 : Int) ≤ i12 ∧ i12 < (↑n9 : Int)) ∧
        ∃ (i13 : Int),
          ∃ (i14 : Int),
            ∃ (s15 : List UInt8),
              ∃ (n16 : Nat),
                ∃ (c17 : List AV),
                  ∃ (n18 : Nat),
                    ∃ (c19 : List AV),
                      seg c10 (Int.toNat i12 * 5) 5 = some [AV.int IntKind.i64 i13, AV.int IntKind.i64 i14, AV.str s15, AV.sl false n16 c17, AV.sl false n18 c19] ∧
                        ∃ (b20 : Bool),
                          ∃ (h21 : Heap),
                            Call Tryz.prog cfg 166 (AV.agg [AV.int IntKind.i64 i13, AV.int IntKind.i64 i14, AV.str s15, AV.sl false n16 c17, AV.sl false n18 c19] :: c1) h (AV.bool b20) h21 ∧
                              bif !b20 then Q (AV.bool false) h21
                              else
                                LabelP Tryz.prog cfg { ptr := false, sl := 0 } 142 3
                                  [AV.fn (Fn.func 166) c1, AV.box [AV.int IntKind.i64 i2, AV.int IntKind.i64 i3, AV.str s4, AV.sl false n5 c6, AV.sl false n7 c8], AV.sl false n9 c10, AV.int IntKind.i64 i11,
                                    AV.int IntKind.i64 (IntKind.wrap IntKind.i64 (i12 + (1 : Int)))]
                                  h21 Q
    else
      bif i2 == (5 : Int) then LabelP Tryz.prog cfg { ptr := false, sl := 0 } 142 10 [AV.fn (Fn.func 166) c1, AV.sl false n7 c8, AV.int IntKind.i64 (↑n7 : Int), AV.int IntKind.i64 0] h Q
      else Q (AV.bool true) h := by intros; kernel_rfl

theorem l142_10_166 : ∀ (c1 : List AV) (n2 : Nat) (c3 : List AV) (i4 i5 : Int) (h : Heap) (Q : AV → Heap → Prop),
  LabelB Tryz.prog cfg { ptr := false, sl := 0 } 142 10 [AV.fn (Fn.func 166) c1, AV.sl false n2 c3, AV.int IntKind.i64 i4, AV.int IntKind.i64 i5] h Q =
    bif decide (i5 < i4) then
      ((0 : Int) ≤ i5 ∧ i5 < (↑n2 : Int)) ∧
        ∃ (s6 : List UInt8),
          ∃ (i7 : Int),
            ∃ (i8 : Int),
              ∃ (s9 : List UInt8),
                ∃ (n10 : Nat),
                  ∃ (c11 : List AV),
                    ∃ (n12 : Nat),
                      ∃ (c13 : List AV),
                        seg c3 (Int.toNat i5 * 6) 6 = some [AV.str s6, AV.int IntKind.i64 i7, AV.int IntKind.i64 i8, AV.str s9, AV.sl false n10 c11, AV.sl false n12 c13] ∧
                          ∃ (b14 : Bool),
                            ∃ (h15 : Heap),
                              Call Tryz.prog cfg 166 (AV.agg [AV.int IntKind.i64 i7, AV.int IntKind.i64 i8, AV.str s9, AV.sl false n10 c11, AV.sl false n12 c13] :: c1) h (AV.bool b14) h15 ∧
                                bif !b14 then Q (AV.bool false) h15
                                else
                                  LabelP Tryz.prog cfg { ptr := false, sl := 0 } 142 10
                                    [AV.fn (Fn.func 166) c1, AV.sl false n2 c3, AV.int IntKind.i64 i4, AV.int IntKind.i64 (IntKind.wrap IntKind.i64 (i5 + (1 : Int)))] h15 Q
    else Q (AV.bool true) h := by intros; kernel_rfl

theorem n5 : ∀ (i1 : Int) (n2 : Nat) (c3 : List AV) (s4 : List UInt8) (n5 : Nat) (c6 : List AV) (i7 i8 : Int) (s9 : List UInt8) (n10 : Nat) (c11 : List AV) (n12 : Nat) (c13 : List AV) (i14 : Int) (n15 : Nat) (c16 : List AV) (Q : AV → Prop),
  BodyP Tryz.prog cfg { ptr := false, sl := 0 } 5
      [AV.agg
          [AV.int IntKind.i64 i1, AV.sl false n2 c3, AV.str s4, AV.sl false n5 c6, AV.int IntKind.i64 i7, AV.int IntKind.i64 i8, AV.str s9, AV.sl false n10 c11, AV.sl false n12 c13, AV.int IntKind.i64 i14, AV.sl false n15 c16]]
      [] (retE Q) =
    ∃ (i17 : Int),
      ∃ (i18 : Int),
        PC Tryz.prog cfg 9
            [AV.agg
                [AV.int IntKind.i64 i1, AV.sl false n2 c3, AV.str s4, AV.sl false n5 c6, AV.int IntKind.i64 i7, AV.int IntKind.i64 i8, AV.str s9, AV.sl false n10 c11, AV.sl false n12 c13, AV.int IntKind.i64 i14,
                  AV.sl false n15 c16],
              AV.int IntKind.i64 501]
            (AV.tup [AV.int IntKind.i64 i17, AV.int IntKind.i64 i18]) ∧
          bif decide (i17 > (500 : Int)) then ∃ (b19 : Bool), PC Tryz.prog cfg 10 [] (AV.bool b19) ∧ Q (AV.bool b19)
          else
            ∃ (i20 : Int),
              ∃ (i21 : Int),
                ∃ (s22 : List UInt8),
                  ∃ (n23 : Nat),
                    ∃ (c24 : List AV),
                      ∃ (n25 : Nat),
                        ∃ (c26 : List AV),
                          ∃ (i27 : Int),
                            PC Tryz.prog cfg 20
                                [AV.agg
                                    [AV.int IntKind.i64 i1, AV.sl false n2 c3, AV.str s4, AV.sl false n5 c6, AV.int IntKind.i64 i7, AV.int IntKind.i64 i8, AV.str s9, AV.sl false n10 c11, AV.sl false n12 c13,
                                      AV.int IntKind.i64 i14, AV.sl false n15 c16]]
                                (AV.tup [AV.agg [AV.int IntKind.i64 i20, AV.int IntKind.i64 i21, AV.str s22, AV.sl false n23 c24, AV.sl false n25 c26], AV.int IntKind.i64 i27]) ∧
                              ∃ (i28 : Int),
                                ∃ (i29 : Int),
                                  ∃ (s30 : List UInt8),
                                    ∃ (n31 : Nat),
                                      ∃ (c32 : List AV),
                                        ∃ (n33 : Nat),
                                          ∃ (c34 : List AV),
                                            ∃ (i35 : Int),
                                              PC Tryz.prog cfg 21
                                                  [AV.agg
                                                      [AV.int IntKind.i64 i1, AV.sl false n2 c3, AV.str s4, AV.sl false n5 c6, AV.int IntKind.i64 i7, AV.int IntKind.i64 i8, AV.str s9, AV.sl false n10 c11, AV.sl false n12 c13,
                                                        AV.int IntKind.i64 i14, AV.sl false n15 c16]]
                                                  (AV.tup [AV.agg [AV.int IntKind.i64 i28, AV.int IntKind.i64 i29, AV.str s30, AV.sl false n31 c32, AV.sl false n33 c34], AV.int IntKind.i64 i35]) ∧
                                                ∃ (b36 : Bool),
                                                  PC Tryz.prog cfg 22
                                                      [AV.agg [AV.int IntKind.i64 i20, AV.int IntKind.i64 i21, AV.str s22, AV.sl false n23 c24, AV.sl false n25 c26],
                                                        AV.agg [AV.int IntKind.i64 i28, AV.int IntKind.i64 i29, AV.str s30, AV.sl false n31 c32, AV.sl false n33 c34]]
                                                      (AV.bool b36) ∧
                                                    ∃ (b37 : Bool),
                                                      (((bif b36 then i27 == i35 else false) && true) = true → PC Tryz.prog cfg 10 [] (AV.bool b37)) ∧
                                                        Q (AV.bool (bif bif b36 then i27 == i35 else false then b37 else false)) := by intros; kernel_rfl
end Go.Proofs.YtdnhhdplcminlaaGreatDoor.AI
