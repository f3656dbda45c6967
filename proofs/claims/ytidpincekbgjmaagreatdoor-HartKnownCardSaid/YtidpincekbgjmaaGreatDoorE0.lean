/-
  Functions of the program in a shallow form (printed by a program of mine), each shown to be what the machine runs. No condition.
-/
import Derived.Test.YtidpincekbgjmaaGreatDoorD
set_option linter.unusedVariables false
set_option linter.unusedSimpArgs false
open Go Go.Abs Go.Proofs
namespace Go.Sh
noncomputable section
set_option maxRecDepth 100000
set_option maxHeartbeats 0
-- 50 ravelin/xsys Do
noncomputable def p50_12 {α : Type} (π : Prims α) (C : CallF α) (fr : Fr) (σ : St) (k : Ex → Fr → St → Option α) : Option α :=
  (fun no => (dK 1 fr.slots no fun r1 => (dN fr.esc 0 no (k (.exit 0) fr σ)))) (execG π PG C (sB (sB (bK (sB (sA (sB (cd PG 50))))))) fr σ k)
theorem p50_12_eq {α : Type} (π : Prims α) (C : CallF α) : execG π PG C (sB (sB (bK (sB (sA (sB (cd PG 50))))))) = p50_12 π C := by
  funext fr σ k
  obtain ⟨slots, defers, esc, rc⟩ := fr
  unfold p50_12
  iterate 1 (refine dKs_eq fun _ _ h => ?_; subst h)
  refine dK0_eq ?_
  refine dN_eq fun h => ?_; subst h
  refine sk_eq (.run (sB (sB (bK (sB (sA (sB (cd PG 50)))))))) (by kernel_rfl) ?_
  generalize execG π PG C = H
  kernel_rfl
noncomputable def p50_11 {α : Type} (π : Prims α) (C : CallF α) (fr : Fr) (σ : St) (k : Ex → Fr → St → Option α) : Option α :=
  (fun no => (dV fr.slots no fun t0 r1 => (dV r1 no fun t1 r2 => (dK 3 r2 no fun r5 => (dB r5 no fun t5 r6 => (dB r6 no fun t6 r7 => (dK 64 r7 no fun r71 => (dV r71 no fun t71 r72 => (dK 4 r72 no fun r76 => (dN fr.esc 0 no (π.cond t71 (fun _ => (π.part true t5 0 11 fun x0 => (C 89 [t0, t1, x0] σ (fun x1 σ2 => (π.put t6 0 3 x1 fun c3 => (updS fr [(6, .box c3), (0, .val (.bool true)), (64, .val t0), (0, .val t1), (0, .val x0), (0, .val x1)] fun fr4 => (k .ret fr4 σ2)))) (fun x5 σ6 => (updS fr [(72, .val t0), (0, .val t1), (0, .val x0)] fun fr7 => (k (.panic x5) fr7 σ6)))))) (fun _ => (k .normal fr σ))))))))))))) (execG π PG C (sB (sA (sB (bK (sB (sA (sB (cd PG 50)))))))) fr σ k)
theorem p50_11_eq {α : Type} (π : Prims α) (C : CallF α) : execG π PG C (sB (sA (sB (bK (sB (sA (sB (cd PG 50)))))))) = p50_11 π C := by
  funext fr σ k
  obtain ⟨slots, defers, esc, rc⟩ := fr
  unfold p50_11
  iterate 2 (refine dV_eq fun _ _ h => ?_; subst h)
  iterate 3 (refine dKs_eq fun _ _ h => ?_; subst h)
  refine dK0_eq ?_
  iterate 2 (refine dB_eq fun _ _ h => ?_; subst h)
  iterate 64 (refine dKs_eq fun _ _ h => ?_; subst h)
  refine dK0_eq ?_
  refine dV_eq fun _ _ h => ?_; subst h
  iterate 4 (refine dKs_eq fun _ _ h => ?_; subst h)
  refine dK0_eq ?_
  refine dN_eq fun h => ?_; subst h
  refine sk_eq (.cond (cX (sB (sA (sB (bK (sB (sA (sB (cd PG 50))))))))) (.seq (.run (sA (cA (sB (sA (sB (bK (sB (sA (sB (cd PG 50))))))))))) (.run (sB (cA (sB (sA (sB (bK (sB (sA (sB (cd PG 50)))))))))))) (.run (cB (sB (sA (sB (bK (sB (sA (sB (cd PG 50))))))))))) (by kernel_rfl) ?_
  generalize execG π PG C = H
  kernel_rfl
noncomputable def p50_10 {α : Type} (π : Prims α) (C : CallF α) (fr : Fr) (σ : St) (k : Ex → Fr → St → Option α) : Option α :=
  (fun no => (dK 5 fr.slots no fun r5 => (dB r5 no fun t5 r6 => (dK 66 r6 no fun r72 => (dN fr.esc 0 no (π.part false t5 1 1 fun x0 => (π.bin PG .geq 3 true x0 (.int .i64 (Int.ofNat 1)) fun x1 => (gdF x1 (fun _ => (π.part false t5 1 1 fun x2 => (π.bin PG .leq 3 true x2 (.int .i64 (Int.ofNat 3)) fun x3 => (updS fr [(64, .ref 5 1), (0, .val x0), (0, .val x1), (0, .val (.bool true)), (0, .ref 5 1), (0, .val x2), (0, .val x3), (0, .val x3)] fun fr4 => (p50_11 π C fr4 σ (seqK (p50_12 π C) k)))))) (fun _ => (updS fr [(64, .ref 5 1), (0, .val x0), (0, .val x1), (0, .val (.bool false)), (0, .val (.tuple [])), (0, .val (.tuple [])), (0, .val (.tuple [])), (0, .val (.bool false))] fun fr5 => (p50_11 π C fr5 σ (seqK (p50_12 π C) k)))) (fun _ => none))))))))) (execG π PG C (sB (bK (sB (sA (sB (cd PG 50)))))) fr σ k)
theorem p50_10_eq {α : Type} (π : Prims α) (C : CallF α) : execG π PG C (sB (bK (sB (sA (sB (cd PG 50)))))) = p50_10 π C := by
  funext fr σ k
  obtain ⟨slots, defers, esc, rc⟩ := fr
  unfold p50_10
  iterate 5 (refine dKs_eq fun _ _ h => ?_; subst h)
  refine dK0_eq ?_
  refine dB_eq fun _ _ h => ?_; subst h
  iterate 66 (refine dKs_eq fun _ _ h => ?_; subst h)
  refine dK0_eq ?_
  refine dN_eq fun h => ?_; subst h
  try rw [← p50_12_eq π C]
  try rw [← p50_11_eq π C]
  refine sk_eq (.seq (.seq (.run (sA (sA (sB (bK (sB (sA (sB (cd PG 50))))))))) (.hole (sB (sA (sB (bK (sB (sA (sB (cd PG 50)))))))))) (.hole (sB (sB (bK (sB (sA (sB (cd PG 50))))))))) (by kernel_rfl) ?_
  generalize execG π PG C = H
  kernel_rfl
noncomputable def p50_13 {α : Type} (π : Prims α) (C : CallF α) (fr : Fr) (σ : St) (k : Ex → Fr → St → Option α) : Option α :=
  (fun no => (dK 1 fr.slots no fun r1 => (dN fr.esc 0 no (k (.exit 0) fr σ)))) (execG π PG C (sB (sB (bK (sA (bK (sB (sA (sB (cd PG 50))))))))) fr σ k)
theorem p50_13_eq {α : Type} (π : Prims α) (C : CallF α) : execG π PG C (sB (sB (bK (sA (bK (sB (sA (sB (cd PG 50))))))))) = p50_13 π C := by
  funext fr σ k
  obtain ⟨slots, defers, esc, rc⟩ := fr
  unfold p50_13
  iterate 1 (refine dKs_eq fun _ _ h => ?_; subst h)
  refine dK0_eq ?_
  refine dN_eq fun h => ?_; subst h
  refine sk_eq (.run (sB (sB (bK (sA (bK (sB (sA (sB (cd PG 50)))))))))) (by kernel_rfl) ?_
  generalize execG π PG C = H
  kernel_rfl
noncomputable def p50_9 {α : Type} (π : Prims α) (C : CallF α) (fr : Fr) (σ : St) (k : Ex → Fr → St → Option α) : Option α :=
  (fun no => (dV fr.slots no fun t0 r1 => (dV r1 no fun t1 r2 => (dK 3 r2 no fun r5 => (dB r5 no fun t5 r6 => (dB r6 no fun t6 r7 => (dK 57 r7 no fun r64 => (dN fr.esc 0 no (π.part true t5 0 11 fun x0 => (C 88 [t0, t1, x0] σ (fun x1 σ2 => (π.put t6 0 3 x1 fun c3 => (updS fr [(6, .box c3), (0, .val (.bool true)), (52, .val t0), (0, .val t1), (0, .val x0), (0, .val x1)] fun fr4 => (k .ret fr4 σ2)))) (fun x5 σ6 => (updS fr [(60, .val t0), (0, .val t1), (0, .val x0)] fun fr7 => (k (.panic x5) fr7 σ6))))))))))))) (execG π PG C (sB (bK (sA (bK (sB (sA (sB (cd PG 50)))))))) fr σ k)
theorem p50_9_eq {α : Type} (π : Prims α) (C : CallF α) : execG π PG C (sB (bK (sA (bK (sB (sA (sB (cd PG 50)))))))) = p50_9 π C := by
  funext fr σ k
  obtain ⟨slots, defers, esc, rc⟩ := fr
  unfold p50_9
  iterate 2 (refine dV_eq fun _ _ h => ?_; subst h)
  iterate 3 (refine dKs_eq fun _ _ h => ?_; subst h)
  refine dK0_eq ?_
  iterate 2 (refine dB_eq fun _ _ h => ?_; subst h)
  iterate 57 (refine dKs_eq fun _ _ h => ?_; subst h)
  refine dK0_eq ?_
  refine dN_eq fun h => ?_; subst h
  try rw [← p50_13_eq π C]
  refine sk_eq (.seq (.seq (.run (sA (sA (sB (bK (sA (bK (sB (sA (sB (cd PG 50))))))))))) (.run (sB (sA (sB (bK (sA (bK (sB (sA (sB (cd PG 50)))))))))))) (.hole (sB (sB (bK (sA (bK (sB (sA (sB (cd PG 50))))))))))) (by kernel_rfl) ?_
  generalize execG π PG C = H
  kernel_rfl
noncomputable def p50_14 {α : Type} (π : Prims α) (C : CallF α) (fr : Fr) (σ : St) (k : Ex → Fr → St → Option α) : Option α :=
  (fun no => (dK 1 fr.slots no fun r1 => (dN fr.esc 0 no (k (.exit 0) fr σ)))) (execG π PG C (sB (sB (bK (sA (bK (sA (bK (sB (sA (sB (cd PG 50))))))))))) fr σ k)
theorem p50_14_eq {α : Type} (π : Prims α) (C : CallF α) : execG π PG C (sB (sB (bK (sA (bK (sA (bK (sB (sA (sB (cd PG 50))))))))))) = p50_14 π C := by
  funext fr σ k
  obtain ⟨slots, defers, esc, rc⟩ := fr
  unfold p50_14
  iterate 1 (refine dKs_eq fun _ _ h => ?_; subst h)
  refine dK0_eq ?_
  refine dN_eq fun h => ?_; subst h
  refine sk_eq (.run (sB (sB (bK (sA (bK (sA (bK (sB (sA (sB (cd PG 50)))))))))))) (by kernel_rfl) ?_
  generalize execG π PG C = H
  kernel_rfl
noncomputable def p50_8 {α : Type} (π : Prims α) (C : CallF α) (fr : Fr) (σ : St) (k : Ex → Fr → St → Option α) : Option α :=
  (fun no => (dK 1 fr.slots no fun r1 => (dV r1 no fun t1 r2 => (dK 3 r2 no fun r5 => (dB r5 no fun t5 r6 => (dB r6 no fun t6 r7 => (dK 53 r7 no fun r60 => (dN fr.esc 0 no (π.part true t5 0 11 fun x0 => (C 87 [t1, x0] σ (fun x1 σ2 => (π.put t6 0 3 x1 fun c3 => (updS fr [(6, .box c3), (0, .val (.bool true)), (49, .val t1), (0, .val x0), (0, .val x1)] fun fr4 => (k .ret fr4 σ2)))) (fun x5 σ6 => (updS fr [(57, .val t1), (0, .val x0)] fun fr7 => (k (.panic x5) fr7 σ6))))))))))))) (execG π PG C (sB (bK (sA (bK (sA (bK (sB (sA (sB (cd PG 50)))))))))) fr σ k)
theorem p50_8_eq {α : Type} (π : Prims α) (C : CallF α) : execG π PG C (sB (bK (sA (bK (sA (bK (sB (sA (sB (cd PG 50)))))))))) = p50_8 π C := by
  funext fr σ k
  obtain ⟨slots, defers, esc, rc⟩ := fr
  unfold p50_8
  iterate 1 (refine dKs_eq fun _ _ h => ?_; subst h)
  refine dK0_eq ?_
  refine dV_eq fun _ _ h => ?_; subst h
  iterate 3 (refine dKs_eq fun _ _ h => ?_; subst h)
  refine dK0_eq ?_
  iterate 2 (refine dB_eq fun _ _ h => ?_; subst h)
  iterate 53 (refine dKs_eq fun _ _ h => ?_; subst h)
  refine dK0_eq ?_
  refine dN_eq fun h => ?_; subst h
  try rw [← p50_14_eq π C]
  refine sk_eq (.seq (.seq (.run (sA (sA (sB (bK (sA (bK (sA (bK (sB (sA (sB (cd PG 50))))))))))))) (.run (sB (sA (sB (bK (sA (bK (sA (bK (sB (sA (sB (cd PG 50)))))))))))))) (.hole (sB (sB (bK (sA (bK (sA (bK (sB (sA (sB (cd PG 50))))))))))))) (by kernel_rfl) ?_
  generalize execG π PG C = H
  kernel_rfl
noncomputable def p50_15 {α : Type} (π : Prims α) (C : CallF α) (fr : Fr) (σ : St) (k : Ex → Fr → St → Option α) : Option α :=
  (fun no => (dK 1 fr.slots no fun r1 => (dN fr.esc 0 no (k (.exit 0) fr σ)))) (execG π PG C (sB (sB (bK (sA (bK (sA (bK (sA (bK (sB (sA (sB (cd PG 50))))))))))))) fr σ k)
theorem p50_15_eq {α : Type} (π : Prims α) (C : CallF α) : execG π PG C (sB (sB (bK (sA (bK (sA (bK (sA (bK (sB (sA (sB (cd PG 50))))))))))))) = p50_15 π C := by
  funext fr σ k
  obtain ⟨slots, defers, esc, rc⟩ := fr
  unfold p50_15
  iterate 1 (refine dKs_eq fun _ _ h => ?_; subst h)
  refine dK0_eq ?_
  refine dN_eq fun h => ?_; subst h
  refine sk_eq (.run (sB (sB (bK (sA (bK (sA (bK (sA (bK (sB (sA (sB (cd PG 50)))))))))))))) (by kernel_rfl) ?_
  generalize execG π PG C = H
  kernel_rfl
noncomputable def p50_7 {α : Type} (π : Prims α) (C : CallF α) (fr : Fr) (σ : St) (k : Ex → Fr → St → Option α) : Option α :=
  (fun no => (dK 1 fr.slots no fun r1 => (dV r1 no fun t1 r2 => (dK 4 r2 no fun r6 => (dB r6 no fun t6 r7 => (dK 50 r7 no fun r57 => (dN fr.esc 0 no (π.nc t1 fun _ => (π.add t1 288 fun x0 => (π.add x0 8 fun x1 => (π.ld σ false 1 x1 fun x2 => (π.put zl60 0 1 (.bool true) fun c3 => (π.put c3 1 1 (.int .i64 (Int.ofNat 3)) fun c4 => (π.put c4 2 1 x2 fun c5 => (π.put t6 0 3 (.agg c5) fun c6 => (updS fr [(6, .box c6), (0, .val (.bool true)), (43, .val t1), (0, .val t1), (0, .val x0), (0, .val x1), (0, .val x2), (0, .val (.agg c5))] fun fr7 => (k .ret fr7 σ))))))))))))))))) (execG π PG C (sB (bK (sA (bK (sA (bK (sA (bK (sB (sA (sB (cd PG 50)))))))))))) fr σ k)
theorem p50_7_eq {α : Type} (π : Prims α) (C : CallF α) : execG π PG C (sB (bK (sA (bK (sA (bK (sA (bK (sB (sA (sB (cd PG 50)))))))))))) = p50_7 π C := by
  funext fr σ k
  obtain ⟨slots, defers, esc, rc⟩ := fr
  unfold p50_7
  iterate 1 (refine dKs_eq fun _ _ h => ?_; subst h)
  refine dK0_eq ?_
  refine dV_eq fun _ _ h => ?_; subst h
  iterate 4 (refine dKs_eq fun _ _ h => ?_; subst h)
  refine dK0_eq ?_
  refine dB_eq fun _ _ h => ?_; subst h
  iterate 50 (refine dKs_eq fun _ _ h => ?_; subst h)
  refine dK0_eq ?_
  refine dN_eq fun h => ?_; subst h
  try rw [← p50_15_eq π C]
  refine sk_eq (.seq (.seq (.run (sA (sA (sB (bK (sA (bK (sA (bK (sA (bK (sB (sA (sB (cd PG 50))))))))))))))) (.run (sB (sA (sB (bK (sA (bK (sA (bK (sA (bK (sB (sA (sB (cd PG 50)))))))))))))))) (.hole (sB (sB (bK (sA (bK (sA (bK (sA (bK (sB (sA (sB (cd PG 50))))))))))))))) (by kernel_rfl) ?_
  generalize execG π PG C = H
  kernel_rfl
noncomputable def p50_16 {α : Type} (π : Prims α) (C : CallF α) (fr : Fr) (σ : St) (k : Ex → Fr → St → Option α) : Option α :=
  (fun no => (dK 1 fr.slots no fun r1 => (dN fr.esc 0 no (k (.exit 0) fr σ)))) (execG π PG C (sB (sB (bK (sA (bK (sA (bK (sA (bK (sA (bK (sB (sA (sB (cd PG 50))))))))))))))) fr σ k)
theorem p50_16_eq {α : Type} (π : Prims α) (C : CallF α) : execG π PG C (sB (sB (bK (sA (bK (sA (bK (sA (bK (sA (bK (sB (sA (sB (cd PG 50))))))))))))))) = p50_16 π C := by
  funext fr σ k
  obtain ⟨slots, defers, esc, rc⟩ := fr
  unfold p50_16
  iterate 1 (refine dKs_eq fun _ _ h => ?_; subst h)
  refine dK0_eq ?_
  refine dN_eq fun h => ?_; subst h
  refine sk_eq (.run (sB (sB (bK (sA (bK (sA (bK (sA (bK (sA (bK (sB (sA (sB (cd PG 50)))))))))))))))) (by kernel_rfl) ?_
  generalize execG π PG C = H
  kernel_rfl
noncomputable def p50_6 {α : Type} (π : Prims α) (C : CallF α) (fr : Fr) (σ : St) (k : Ex → Fr → St → Option α) : Option α :=
  (fun no => (dK 1 fr.slots no fun r1 => (dV r1 no fun t1 r2 => (dK 4 r2 no fun r6 => (dB r6 no fun t6 r7 => (dK 44 r7 no fun r51 => (dN fr.esc 0 no (C 86 [t1] σ (fun x0 σ1 => (π.put t6 0 3 x0 fun c2 => (updS fr [(6, .box c2), (0, .val (.bool true)), (41, .val t1), (0, .val x0)] fun fr3 => (k .ret fr3 σ1)))) (fun x4 σ5 => (updS fr [(49, .val t1)] fun fr6 => (k (.panic x4) fr6 σ5))))))))))) (execG π PG C (sB (bK (sA (bK (sA (bK (sA (bK (sA (bK (sB (sA (sB (cd PG 50)))))))))))))) fr σ k)
theorem p50_6_eq {α : Type} (π : Prims α) (C : CallF α) : execG π PG C (sB (bK (sA (bK (sA (bK (sA (bK (sA (bK (sB (sA (sB (cd PG 50)))))))))))))) = p50_6 π C := by
  funext fr σ k
  obtain ⟨slots, defers, esc, rc⟩ := fr
  unfold p50_6
  iterate 1 (refine dKs_eq fun _ _ h => ?_; subst h)
  refine dK0_eq ?_
  refine dV_eq fun _ _ h => ?_; subst h
  iterate 4 (refine dKs_eq fun _ _ h => ?_; subst h)
  refine dK0_eq ?_
  refine dB_eq fun _ _ h => ?_; subst h
  iterate 44 (refine dKs_eq fun _ _ h => ?_; subst h)
  refine dK0_eq ?_
  refine dN_eq fun h => ?_; subst h
  try rw [← p50_16_eq π C]
  refine sk_eq (.seq (.seq (.run (sA (sA (sB (bK (sA (bK (sA (bK (sA (bK (sA (bK (sB (sA (sB (cd PG 50))))))))))))))))) (.run (sB (sA (sB (bK (sA (bK (sA (bK (sA (bK (sA (bK (sB (sA (sB (cd PG 50)))))))))))))))))) (.hole (sB (sB (bK (sA (bK (sA (bK (sA (bK (sA (bK (sB (sA (sB (cd PG 50))))))))))))))))) (by kernel_rfl) ?_
  generalize execG π PG C = H
  kernel_rfl
noncomputable def p50_18 {α : Type} (π : Prims α) (C : CallF α) (fr : Fr) (σ : St) (k : Ex → Fr → St → Option α) : Option α :=
  (fun no => (dK 1 fr.slots no fun r1 => (dV r1 no fun t1 r2 => (dK 42 r2 no fun r44 => (dN fr.esc 0 no (π.nc t1 fun _ => (π.add t1 395 fun x0 => (π.st σ 1 x0 (.bool true) fun σ1 => (updS fr [(41, .val t1), (0, .val t1), (0, .val x0)] fun fr2 => (k .normal fr2 σ1)))))))))) (execG π PG C (sB (sB (bK (sA (bK (sA (bK (sA (bK (sA (bK (sA (bK (sA (bK (sB (sA (sB (cd PG 50))))))))))))))))))) fr σ k)
theorem p50_18_eq {α : Type} (π : Prims α) (C : CallF α) : execG π PG C (sB (sB (bK (sA (bK (sA (bK (sA (bK (sA (bK (sA (bK (sA (bK (sB (sA (sB (cd PG 50))))))))))))))))))) = p50_18 π C := by
  funext fr σ k
  obtain ⟨slots, defers, esc, rc⟩ := fr
  unfold p50_18
  iterate 1 (refine dKs_eq fun _ _ h => ?_; subst h)
  refine dK0_eq ?_
  refine dV_eq fun _ _ h => ?_; subst h
  iterate 42 (refine dKs_eq fun _ _ h => ?_; subst h)
  refine dK0_eq ?_
  refine dN_eq fun h => ?_; subst h
  refine sk_eq (.run (sB (sB (bK (sA (bK (sA (bK (sA (bK (sA (bK (sA (bK (sA (bK (sB (sA (sB (cd PG 50)))))))))))))))))))) (by kernel_rfl) ?_
  generalize execG π PG C = H
  kernel_rfl
noncomputable def p50_17 {α : Type} (π : Prims α) (C : CallF α) (fr : Fr) (σ : St) (k : Ex → Fr → St → Option α) : Option α :=
  (fun no => (dK 5 fr.slots no fun r5 => (dB r5 no fun t5 r6 => (dB r6 no fun t6 r7 => (dK 31 r7 no fun r38 => (dV r38 no fun t38 r39 => (dK 2 r39 no fun r41 => (dN fr.esc 0 no (π.cond t38 (fun _ => (π.part true t5 0 11 fun x0 => (C 85 [x0] σ (fun x1 σ2 => (π.put t6 0 3 x1 fun c3 => (updS fr [(6, .box c3), (0, .val (.bool true)), (31, .val x0), (0, .val x1)] fun fr4 => (k .ret fr4 σ2)))) (fun x5 σ6 => (updS fr [(39, .val x0)] fun fr7 => (k (.panic x5) fr7 σ6)))))) (fun _ => (k .normal fr σ))))))))))) (execG π PG C (sB (sA (sB (bK (sA (bK (sA (bK (sA (bK (sA (bK (sA (bK (sA (bK (sB (sA (sB (cd PG 50)))))))))))))))))))) fr σ k)
theorem p50_17_eq {α : Type} (π : Prims α) (C : CallF α) : execG π PG C (sB (sA (sB (bK (sA (bK (sA (bK (sA (bK (sA (bK (sA (bK (sA (bK (sB (sA (sB (cd PG 50)))))))))))))))))))) = p50_17 π C := by
  funext fr σ k
  obtain ⟨slots, defers, esc, rc⟩ := fr
  unfold p50_17
  iterate 5 (refine dKs_eq fun _ _ h => ?_; subst h)
  refine dK0_eq ?_
  iterate 2 (refine dB_eq fun _ _ h => ?_; subst h)
  iterate 31 (refine dKs_eq fun _ _ h => ?_; subst h)
  refine dK0_eq ?_
  refine dV_eq fun _ _ h => ?_; subst h
  iterate 2 (refine dKs_eq fun _ _ h => ?_; subst h)
  refine dK0_eq ?_
  refine dN_eq fun h => ?_; subst h
  refine sk_eq (.cond (cX (sB (sA (sB (bK (sA (bK (sA (bK (sA (bK (sA (bK (sA (bK (sA (bK (sB (sA (sB (cd PG 50))))))))))))))))))))) (.seq (.run (sA (cA (sB (sA (sB (bK (sA (bK (sA (bK (sA (bK (sA (bK (sA (bK (sA (bK (sB (sA (sB (cd PG 50))))))))))))))))))))))) (.run (sB (cA (sB (sA (sB (bK (sA (bK (sA (bK (sA (bK (sA (bK (sA (bK (sA (bK (sB (sA (sB (cd PG 50)))))))))))))))))))))))) (.run (cB (sB (sA (sB (bK (sA (bK (sA (bK (sA (bK (sA (bK (sA (bK (sA (bK (sB (sA (sB (cd PG 50))))))))))))))))))))))) (by kernel_rfl) ?_
  generalize execG π PG C = H
  kernel_rfl
noncomputable def p50_5 {α : Type} (π : Prims α) (C : CallF α) (fr : Fr) (σ : St) (k : Ex → Fr → St → Option α) : Option α :=
  (fun no => (dK 1 fr.slots no fun r1 => (dV r1 no fun t1 r2 => (dK 37 r2 no fun r39 => (dN fr.esc 0 no (π.nc t1 fun _ => (π.add t1 379 fun x0 => (π.ld σ false 1 x0 fun x1 => (π.bin PG .and 22 true x1 (.int .u64 (Int.ofNat 2097152)) fun x2 => (π.bin PG .neq 22 true x2 (.int .u64 (Int.ofNat 0)) fun x3 => (gdF x3 (fun _ => (π.nc t1 fun _ => (π.add t1 378 fun x4 => (π.ld σ false 1 x4 fun x5 => (π.bin PG .lss 3 true x5 (.int .i64 (Int.ofNat 3)) fun x6 => (updS fr [(26, .val t1), (0, .val t1), (0, .val x0), (0, .val x1), (0, .val x2), (0, .val x3), (0, .val (.bool true)), (0, .val t1), (0, .val t1), (0, .val x4), (0, .val x5), (0, .val x6), (0, .val x6)] fun fr7 => (p50_17 π C fr7 σ (seqK (p50_18 π C) k)))))))) (fun _ => (updS fr [(26, .val t1), (0, .val t1), (0, .val x0), (0, .val x1), (0, .val x2), (0, .val x3), (0, .val (.bool false)), (0, .val (.tuple [])), (0, .val (.tuple [])), (0, .val (.tuple [])), (0, .val (.tuple [])), (0, .val (.tuple [])), (0, .val (.bool false))] fun fr8 => (p50_17 π C fr8 σ (seqK (p50_18 π C) k)))) (fun _ => none)))))))))))) (execG π PG C (sB (bK (sA (bK (sA (bK (sA (bK (sA (bK (sA (bK (sA (bK (sB (sA (sB (cd PG 50)))))))))))))))))) fr σ k)
theorem p50_5_eq {α : Type} (π : Prims α) (C : CallF α) : execG π PG C (sB (bK (sA (bK (sA (bK (sA (bK (sA (bK (sA (bK (sA (bK (sB (sA (sB (cd PG 50)))))))))))))))))) = p50_5 π C := by
  funext fr σ k
  obtain ⟨slots, defers, esc, rc⟩ := fr
  unfold p50_5
  iterate 1 (refine dKs_eq fun _ _ h => ?_; subst h)
  refine dK0_eq ?_
  refine dV_eq fun _ _ h => ?_; subst h
  iterate 37 (refine dKs_eq fun _ _ h => ?_; subst h)
  refine dK0_eq ?_
  refine dN_eq fun h => ?_; subst h
  try rw [← p50_18_eq π C]
  try rw [← p50_17_eq π C]
  refine sk_eq (.seq (.seq (.run (sA (sA (sB (bK (sA (bK (sA (bK (sA (bK (sA (bK (sA (bK (sA (bK (sB (sA (sB (cd PG 50))))))))))))))))))))) (.hole (sB (sA (sB (bK (sA (bK (sA (bK (sA (bK (sA (bK (sA (bK (sA (bK (sB (sA (sB (cd PG 50)))))))))))))))))))))) (.hole (sB (sB (bK (sA (bK (sA (bK (sA (bK (sA (bK (sA (bK (sA (bK (sB (sA (sB (cd PG 50))))))))))))))))))))) (by kernel_rfl) ?_
  generalize execG π PG C = H
  kernel_rfl
noncomputable def p50_20 {α : Type} (π : Prims α) (C : CallF α) (fr : Fr) (σ : St) (k : Ex → Fr → St → Option α) : Option α :=
  (fun no => (dK 12 fr.slots no fun r12 => (dV r12 no fun t12 r13 => (dN fr.esc 0 no (π.cond t12 (fun _ => (k (.exit 2) fr σ)) (fun _ => (k .normal fr σ))))))) (execG π PG C (sB (sA (sB (sA (bK (sA (bK (sA (bK (sA (bK (sA (bK (sA (bK (sA (bK (sA (bK (sB (sA (sB (cd PG 50))))))))))))))))))))))) fr σ k)
theorem p50_20_eq {α : Type} (π : Prims α) (C : CallF α) : execG π PG C (sB (sA (sB (sA (bK (sA (bK (sA (bK (sA (bK (sA (bK (sA (bK (sA (bK (sA (bK (sB (sA (sB (cd PG 50))))))))))))))))))))))) = p50_20 π C := by
  funext fr σ k
  obtain ⟨slots, defers, esc, rc⟩ := fr
  unfold p50_20
  iterate 12 (refine dKs_eq fun _ _ h => ?_; subst h)
  refine dK0_eq ?_
  refine dV_eq fun _ _ h => ?_; subst h
  refine dN_eq fun h => ?_; subst h
  refine sk_eq (.cond (cX (sB (sA (sB (sA (bK (sA (bK (sA (bK (sA (bK (sA (bK (sA (bK (sA (bK (sA (bK (sB (sA (sB (cd PG 50)))))))))))))))))))))))) (.run (cA (sB (sA (sB (sA (bK (sA (bK (sA (bK (sA (bK (sA (bK (sA (bK (sA (bK (sA (bK (sB (sA (sB (cd PG 50))))))))))))))))))))))))) (.run (cB (sB (sA (sB (sA (bK (sA (bK (sA (bK (sA (bK (sA (bK (sA (bK (sA (bK (sA (bK (sB (sA (sB (cd PG 50)))))))))))))))))))))))))) (by kernel_rfl) ?_
  generalize execG π PG C = H
  kernel_rfl
noncomputable def p50_24 {α : Type} (π : Prims α) (C : CallF α) (fr : Fr) (σ : St) (k : Ex → Fr → St → Option α) : Option α :=
  (fun no => (dK 19 fr.slots no fun r19 => (dV r19 no fun t19 r20 => (dN fr.esc 0 no (π.cond t19 (fun _ => (k (.exit 5) fr σ)) (fun _ => (k .normal fr σ))))))) (execG π PG C (sB (sA (sB (sB (sB (sB (sA (bK (sA (bK (sA (bK (sA (bK (sA (bK (sA (bK (sA (bK (sA (bK (sB (sA (sB (cd PG 50)))))))))))))))))))))))))) fr σ k)
theorem p50_24_eq {α : Type} (π : Prims α) (C : CallF α) : execG π PG C (sB (sA (sB (sB (sB (sB (sA (bK (sA (bK (sA (bK (sA (bK (sA (bK (sA (bK (sA (bK (sA (bK (sB (sA (sB (cd PG 50)))))))))))))))))))))))))) = p50_24 π C := by
  funext fr σ k
  obtain ⟨slots, defers, esc, rc⟩ := fr
  unfold p50_24
  iterate 19 (refine dKs_eq fun _ _ h => ?_; subst h)
  refine dK0_eq ?_
  refine dV_eq fun _ _ h => ?_; subst h
  refine dN_eq fun h => ?_; subst h
  refine sk_eq (.cond (cX (sB (sA (sB (sB (sB (sB (sA (bK (sA (bK (sA (bK (sA (bK (sA (bK (sA (bK (sA (bK (sA (bK (sB (sA (sB (cd PG 50))))))))))))))))))))))))))) (.run (cA (sB (sA (sB (sB (sB (sB (sA (bK (sA (bK (sA (bK (sA (bK (sA (bK (sA (bK (sA (bK (sA (bK (sB (sA (sB (cd PG 50)))))))))))))))))))))))))))) (.run (cB (sB (sA (sB (sB (sB (sB (sA (bK (sA (bK (sA (bK (sA (bK (sA (bK (sA (bK (sA (bK (sA (bK (sB (sA (sB (cd PG 50))))))))))))))))))))))))))))) (by kernel_rfl) ?_
  generalize execG π PG C = H
  kernel_rfl
noncomputable def p50_25 {α : Type} (π : Prims α) (C : CallF α) (fr : Fr) (σ : St) (k : Ex → Fr → St → Option α) : Option α :=
  (fun no => (dK 9 fr.slots no fun r9 => (dV r9 no fun t9 r10 => (dK 16 r10 no fun r26 => (dN fr.esc 0 no (π.bin PG .eql 3 true t9 (.int .i64 (Int.ofNat 19)) fun x0 => (π.cond x0 (fun _ => (updS fr [(24, .val x0), (0, .val x0)] fun fr1 => (k (.exit 7) fr1 σ))) (fun _ => (updS fr [(24, .val x0), (0, .val x0)] fun fr2 => (k .normal fr2 σ)))))))))) (execG π PG C (sB (sB (sB (sB (sB (sB (sA (bK (sA (bK (sA (bK (sA (bK (sA (bK (sA (bK (sA (bK (sA (bK (sB (sA (sB (cd PG 50)))))))))))))))))))))))))) fr σ k)
theorem p50_25_eq {α : Type} (π : Prims α) (C : CallF α) : execG π PG C (sB (sB (sB (sB (sB (sB (sA (bK (sA (bK (sA (bK (sA (bK (sA (bK (sA (bK (sA (bK (sA (bK (sB (sA (sB (cd PG 50)))))))))))))))))))))))))) = p50_25 π C := by
  funext fr σ k
  obtain ⟨slots, defers, esc, rc⟩ := fr
  unfold p50_25
  iterate 9 (refine dKs_eq fun _ _ h => ?_; subst h)
  refine dK0_eq ?_
  refine dV_eq fun _ _ h => ?_; subst h
  iterate 16 (refine dKs_eq fun _ _ h => ?_; subst h)
  refine dK0_eq ?_
  refine dN_eq fun h => ?_; subst h
  refine sk_eq (.seq (.run (sA (sB (sB (sB (sB (sB (sB (sA (bK (sA (bK (sA (bK (sA (bK (sA (bK (sA (bK (sA (bK (sA (bK (sB (sA (sB (cd PG 50)))))))))))))))))))))))))))) (.cond (cX (sB (sB (sB (sB (sB (sB (sB (sA (bK (sA (bK (sA (bK (sA (bK (sA (bK (sA (bK (sA (bK (sA (bK (sB (sA (sB (cd PG 50)))))))))))))))))))))))))))) (.run (cA (sB (sB (sB (sB (sB (sB (sB (sA (bK (sA (bK (sA (bK (sA (bK (sA (bK (sA (bK (sA (bK (sA (bK (sB (sA (sB (cd PG 50))))))))))))))))))))))))))))) (.run (cB (sB (sB (sB (sB (sB (sB (sB (sA (bK (sA (bK (sA (bK (sA (bK (sA (bK (sA (bK (sA (bK (sA (bK (sB (sA (sB (cd PG 50))))))))))))))))))))))))))))))) (by kernel_rfl) ?_
  generalize execG π PG C = H
  kernel_rfl
noncomputable def p50_23 {α : Type} (π : Prims α) (C : CallF α) (fr : Fr) (σ : St) (k : Ex → Fr → St → Option α) : Option α :=
  (fun no => (dK 9 fr.slots no fun r9 => (dV r9 no fun t9 r10 => (dK 14 r10 no fun r24 => (dN fr.esc 0 no (π.bin PG .eql 3 true t9 (.int .i64 (Int.ofNat 18)) fun x0 => (π.cond x0 (fun _ => (updS fr [(22, .val x0), (0, .val x0)] fun fr1 => (k (.exit 6) fr1 σ))) (fun _ => (updS fr [(22, .val x0), (0, .val x0)] fun fr2 => (p50_25 π C fr2 σ k)))))))))) (execG π PG C (sB (sB (sB (sB (sB (sA (bK (sA (bK (sA (bK (sA (bK (sA (bK (sA (bK (sA (bK (sA (bK (sB (sA (sB (cd PG 50))))))))))))))))))))))))) fr σ k)
theorem p50_23_eq {α : Type} (π : Prims α) (C : CallF α) : execG π PG C (sB (sB (sB (sB (sB (sA (bK (sA (bK (sA (bK (sA (bK (sA (bK (sA (bK (sA (bK (sA (bK (sB (sA (sB (cd PG 50))))))))))))))))))))))))) = p50_23 π C := by
  funext fr σ k
  obtain ⟨slots, defers, esc, rc⟩ := fr
  unfold p50_23
  iterate 9 (refine dKs_eq fun _ _ h => ?_; subst h)
  refine dK0_eq ?_
  refine dV_eq fun _ _ h => ?_; subst h
  iterate 14 (refine dKs_eq fun _ _ h => ?_; subst h)
  refine dK0_eq ?_
  refine dN_eq fun h => ?_; subst h
  try rw [← p50_25_eq π C]
  refine sk_eq (.seq (.seq (.run (sA (sA (sB (sB (sB (sB (sB (sA (bK (sA (bK (sA (bK (sA (bK (sA (bK (sA (bK (sA (bK (sA (bK (sB (sA (sB (cd PG 50)))))))))))))))))))))))))))) (.cond (cX (sB (sA (sB (sB (sB (sB (sB (sA (bK (sA (bK (sA (bK (sA (bK (sA (bK (sA (bK (sA (bK (sA (bK (sB (sA (sB (cd PG 50)))))))))))))))))))))))))))) (.run (cA (sB (sA (sB (sB (sB (sB (sB (sA (bK (sA (bK (sA (bK (sA (bK (sA (bK (sA (bK (sA (bK (sA (bK (sB (sA (sB (cd PG 50))))))))))))))))))))))))))))) (.run (cB (sB (sA (sB (sB (sB (sB (sB (sA (bK (sA (bK (sA (bK (sA (bK (sA (bK (sA (bK (sA (bK (sA (bK (sB (sA (sB (cd PG 50))))))))))))))))))))))))))))))) (.hole (sB (sB (sB (sB (sB (sB (sA (bK (sA (bK (sA (bK (sA (bK (sA (bK (sA (bK (sA (bK (sA (bK (sB (sA (sB (cd PG 50)))))))))))))))))))))))))))) (by kernel_rfl) ?_
  generalize execG π PG C = H
  kernel_rfl
noncomputable def p50_22 {α : Type} (π : Prims α) (C : CallF α) (fr : Fr) (σ : St) (k : Ex → Fr → St → Option α) : Option α :=
  (fun no => (dK 9 fr.slots no fun r9 => (dV r9 no fun t9 r10 => (dK 12 r10 no fun r22 => (dN fr.esc 0 no (π.bin PG .eql 3 true t9 (.int .i64 (Int.ofNat 15)) fun x0 => (π.cond x0 (fun _ => (updS fr [(19, .val x0), (0, .val x0)] fun fr1 => (p50_24 π C fr1 σ (seqK (p50_23 π C) k)))) (fun _ => (π.bin PG .eql 3 true t9 (.int .i64 (Int.ofNat 16)) fun x2 => (updS fr [(19, .val x2), (0, .val x0), (0, .val x2)] fun fr3 => (p50_24 π C fr3 σ (seqK (p50_23 π C) k)))))))))))) (execG π PG C (sB (sB (sB (sB (sA (bK (sA (bK (sA (bK (sA (bK (sA (bK (sA (bK (sA (bK (sA (bK (sB (sA (sB (cd PG 50)))))))))))))))))))))))) fr σ k)
theorem p50_22_eq {α : Type} (π : Prims α) (C : CallF α) : execG π PG C (sB (sB (sB (sB (sA (bK (sA (bK (sA (bK (sA (bK (sA (bK (sA (bK (sA (bK (sA (bK (sB (sA (sB (cd PG 50)))))))))))))))))))))))) = p50_22 π C := by
  funext fr σ k
  obtain ⟨slots, defers, esc, rc⟩ := fr
  unfold p50_22
  iterate 9 (refine dKs_eq fun _ _ h => ?_; subst h)
  refine dK0_eq ?_
  refine dV_eq fun _ _ h => ?_; subst h
  iterate 12 (refine dKs_eq fun _ _ h => ?_; subst h)
  refine dK0_eq ?_
  refine dN_eq fun h => ?_; subst h
  try rw [← p50_24_eq π C]
  try rw [← p50_23_eq π C]
  refine sk_eq (.seq (.seq (.seq (.run (sA (sA (sA (sB (sB (sB (sB (sA (bK (sA (bK (sA (bK (sA (bK (sA (bK (sA (bK (sA (bK (sA (bK (sB (sA (sB (cd PG 50)))))))))))))))))))))))))))) (.cond (cX (sB (sA (sA (sB (sB (sB (sB (sA (bK (sA (bK (sA (bK (sA (bK (sA (bK (sA (bK (sA (bK (sA (bK (sB (sA (sB (cd PG 50)))))))))))))))))))))))))))) (.run (cA (sB (sA (sA (sB (sB (sB (sB (sA (bK (sA (bK (sA (bK (sA (bK (sA (bK (sA (bK (sA (bK (sA (bK (sB (sA (sB (cd PG 50))))))))))))))))))))))))))))) (.run (cB (sB (sA (sA (sB (sB (sB (sB (sA (bK (sA (bK (sA (bK (sA (bK (sA (bK (sA (bK (sA (bK (sA (bK (sB (sA (sB (cd PG 50))))))))))))))))))))))))))))))) (.hole (sB (sA (sB (sB (sB (sB (sA (bK (sA (bK (sA (bK (sA (bK (sA (bK (sA (bK (sA (bK (sA (bK (sB (sA (sB (cd PG 50)))))))))))))))))))))))))))) (.hole (sB (sB (sB (sB (sB (sA (bK (sA (bK (sA (bK (sA (bK (sA (bK (sA (bK (sA (bK (sA (bK (sB (sA (sB (cd PG 50))))))))))))))))))))))))))) (by kernel_rfl) ?_
  generalize execG π PG C = H
  kernel_rfl
noncomputable def p50_21 {α : Type} (π : Prims α) (C : CallF α) (fr : Fr) (σ : St) (k : Ex → Fr → St → Option α) : Option α :=
  (fun no => (dK 9 fr.slots no fun r9 => (dV r9 no fun t9 r10 => (dK 9 r10 no fun r19 => (dN fr.esc 0 no (π.bin PG .eql 3 true t9 (.int .i64 (Int.ofNat 14)) fun x0 => (π.cond x0 (fun _ => (updS fr [(17, .val x0), (0, .val x0)] fun fr1 => (k (.exit 4) fr1 σ))) (fun _ => (updS fr [(17, .val x0), (0, .val x0)] fun fr2 => (p50_22 π C fr2 σ k)))))))))) (execG π PG C (sB (sB (sB (sA (bK (sA (bK (sA (bK (sA (bK (sA (bK (sA (bK (sA (bK (sA (bK (sB (sA (sB (cd PG 50))))))))))))))))))))))) fr σ k)
theorem p50_21_eq {α : Type} (π : Prims α) (C : CallF α) : execG π PG C (sB (sB (sB (sA (bK (sA (bK (sA (bK (sA (bK (sA (bK (sA (bK (sA (bK (sA (bK (sB (sA (sB (cd PG 50))))))))))))))))))))))) = p50_21 π C := by
  funext fr σ k
  obtain ⟨slots, defers, esc, rc⟩ := fr
  unfold p50_21
  iterate 9 (refine dKs_eq fun _ _ h => ?_; subst h)
  refine dK0_eq ?_
  refine dV_eq fun _ _ h => ?_; subst h
  iterate 9 (refine dKs_eq fun _ _ h => ?_; subst h)
  refine dK0_eq ?_
  refine dN_eq fun h => ?_; subst h
  try rw [← p50_22_eq π C]
  refine sk_eq (.seq (.seq (.run (sA (sA (sB (sB (sB (sA (bK (sA (bK (sA (bK (sA (bK (sA (bK (sA (bK (sA (bK (sA (bK (sB (sA (sB (cd PG 50)))))))))))))))))))))))))) (.cond (cX (sB (sA (sB (sB (sB (sA (bK (sA (bK (sA (bK (sA (bK (sA (bK (sA (bK (sA (bK (sA (bK (sB (sA (sB (cd PG 50)))))))))))))))))))))))))) (.run (cA (sB (sA (sB (sB (sB (sA (bK (sA (bK (sA (bK (sA (bK (sA (bK (sA (bK (sA (bK (sA (bK (sB (sA (sB (cd PG 50))))))))))))))))))))))))))) (.run (cB (sB (sA (sB (sB (sB (sA (bK (sA (bK (sA (bK (sA (bK (sA (bK (sA (bK (sA (bK (sA (bK (sB (sA (sB (cd PG 50))))))))))))))))))))))))))))) (.hole (sB (sB (sB (sB (sA (bK (sA (bK (sA (bK (sA (bK (sA (bK (sA (bK (sA (bK (sA (bK (sB (sA (sB (cd PG 50)))))))))))))))))))))))))) (by kernel_rfl) ?_
  generalize execG π PG C = H
  kernel_rfl
noncomputable def p50_19 {α : Type} (π : Prims α) (C : CallF α) (fr : Fr) (σ : St) (k : Ex → Fr → St → Option α) : Option α :=
  (fun no => (dK 9 fr.slots no fun r9 => (dV r9 no fun t9 r10 => (dK 7 r10 no fun r17 => (dN fr.esc 0 no (π.bin PG .eql 3 true t9 (.int .i64 (Int.ofNat 13)) fun x0 => (π.cond x0 (fun _ => (updS fr [(15, .val x0), (0, .val x0)] fun fr1 => (k (.exit 3) fr1 σ))) (fun _ => (updS fr [(15, .val x0), (0, .val x0)] fun fr2 => (p50_21 π C fr2 σ k)))))))))) (execG π PG C (sB (sB (sA (bK (sA (bK (sA (bK (sA (bK (sA (bK (sA (bK (sA (bK (sA (bK (sB (sA (sB (cd PG 50)))))))))))))))))))))) fr σ k)
theorem p50_19_eq {α : Type} (π : Prims α) (C : CallF α) : execG π PG C (sB (sB (sA (bK (sA (bK (sA (bK (sA (bK (sA (bK (sA (bK (sA (bK (sA (bK (sB (sA (sB (cd PG 50)))))))))))))))))))))) = p50_19 π C := by
  funext fr σ k
  obtain ⟨slots, defers, esc, rc⟩ := fr
  unfold p50_19
  iterate 9 (refine dKs_eq fun _ _ h => ?_; subst h)
  refine dK0_eq ?_
  refine dV_eq fun _ _ h => ?_; subst h
  iterate 7 (refine dKs_eq fun _ _ h => ?_; subst h)
  refine dK0_eq ?_
  refine dN_eq fun h => ?_; subst h
  try rw [← p50_21_eq π C]
  refine sk_eq (.seq (.seq (.run (sA (sA (sB (sB (sA (bK (sA (bK (sA (bK (sA (bK (sA (bK (sA (bK (sA (bK (sA (bK (sB (sA (sB (cd PG 50))))))))))))))))))))))))) (.cond (cX (sB (sA (sB (sB (sA (bK (sA (bK (sA (bK (sA (bK (sA (bK (sA (bK (sA (bK (sA (bK (sB (sA (sB (cd PG 50))))))))))))))))))))))))) (.run (cA (sB (sA (sB (sB (sA (bK (sA (bK (sA (bK (sA (bK (sA (bK (sA (bK (sA (bK (sA (bK (sB (sA (sB (cd PG 50)))))))))))))))))))))))))) (.run (cB (sB (sA (sB (sB (sA (bK (sA (bK (sA (bK (sA (bK (sA (bK (sA (bK (sA (bK (sA (bK (sB (sA (sB (cd PG 50)))))))))))))))))))))))))))) (.hole (sB (sB (sB (sA (bK (sA (bK (sA (bK (sA (bK (sA (bK (sA (bK (sA (bK (sA (bK (sB (sA (sB (cd PG 50))))))))))))))))))))))))) (by kernel_rfl) ?_
  generalize execG π PG C = H
  kernel_rfl
noncomputable def p50_4 {α : Type} (π : Prims α) (C : CallF α) (fr : Fr) (σ : St) (k : Ex → Fr → St → Option α) : Option α :=
  (fun no => (dK 9 fr.slots no fun r9 => (dV r9 no fun t9 r10 => (dK 5 r10 no fun r15 => (dN fr.esc 0 no (π.bin PG .eql 3 true t9 (.int .i64 (Int.ofNat 11)) fun x0 => (π.cond x0 (fun _ => (updS fr [(12, .val x0), (0, .val x0)] fun fr1 => (p50_20 π C fr1 σ (seqK (p50_19 π C) k)))) (fun _ => (π.bin PG .eql 3 true t9 (.int .i64 (Int.ofNat 12)) fun x2 => (updS fr [(12, .val x2), (0, .val x0), (0, .val x2)] fun fr3 => (p50_20 π C fr3 σ (seqK (p50_19 π C) k)))))))))))) (execG π PG C (sB (sA (bK (sA (bK (sA (bK (sA (bK (sA (bK (sA (bK (sA (bK (sA (bK (sB (sA (sB (cd PG 50))))))))))))))))))))) fr σ k)
theorem p50_4_eq {α : Type} (π : Prims α) (C : CallF α) : execG π PG C (sB (sA (bK (sA (bK (sA (bK (sA (bK (sA (bK (sA (bK (sA (bK (sA (bK (sB (sA (sB (cd PG 50))))))))))))))))))))) = p50_4 π C := by
  funext fr σ k
  obtain ⟨slots, defers, esc, rc⟩ := fr
  unfold p50_4
  iterate 9 (refine dKs_eq fun _ _ h => ?_; subst h)
  refine dK0_eq ?_
  refine dV_eq fun _ _ h => ?_; subst h
  iterate 5 (refine dKs_eq fun _ _ h => ?_; subst h)
  refine dK0_eq ?_
  refine dN_eq fun h => ?_; subst h
  try rw [← p50_20_eq π C]
  try rw [← p50_19_eq π C]
  refine sk_eq (.seq (.seq (.seq (.run (sA (sA (sA (sB (sA (bK (sA (bK (sA (bK (sA (bK (sA (bK (sA (bK (sA (bK (sA (bK (sB (sA (sB (cd PG 50))))))))))))))))))))))))) (.cond (cX (sB (sA (sA (sB (sA (bK (sA (bK (sA (bK (sA (bK (sA (bK (sA (bK (sA (bK (sA (bK (sB (sA (sB (cd PG 50))))))))))))))))))))))))) (.run (cA (sB (sA (sA (sB (sA (bK (sA (bK (sA (bK (sA (bK (sA (bK (sA (bK (sA (bK (sA (bK (sB (sA (sB (cd PG 50)))))))))))))))))))))))))) (.run (cB (sB (sA (sA (sB (sA (bK (sA (bK (sA (bK (sA (bK (sA (bK (sA (bK (sA (bK (sA (bK (sB (sA (sB (cd PG 50)))))))))))))))))))))))))))) (.hole (sB (sA (sB (sA (bK (sA (bK (sA (bK (sA (bK (sA (bK (sA (bK (sA (bK (sA (bK (sB (sA (sB (cd PG 50))))))))))))))))))))))))) (.hole (sB (sB (sA (bK (sA (bK (sA (bK (sA (bK (sA (bK (sA (bK (sA (bK (sA (bK (sB (sA (sB (cd PG 50)))))))))))))))))))))))) (by kernel_rfl) ?_
  generalize execG π PG C = H
  kernel_rfl
noncomputable def p50_3 {α : Type} (π : Prims α) (C : CallF α) (fr : Fr) (σ : St) (k : Ex → Fr → St → Option α) : Option α :=
  (fun no => (dK 1 fr.slots no fun r1 => (dN fr.esc 0 no (k (.exit 0) fr σ)))) (execG π PG C (sB (bK (sA (bK (sA (bK (sA (bK (sA (bK (sA (bK (sA (bK (sA (bK (sB (sA (sB (cd PG 50)))))))))))))))))))) fr σ k)
theorem p50_3_eq {α : Type} (π : Prims α) (C : CallF α) : execG π PG C (sB (bK (sA (bK (sA (bK (sA (bK (sA (bK (sA (bK (sA (bK (sA (bK (sB (sA (sB (cd PG 50)))))))))))))))))))) = p50_3 π C := by
  funext fr σ k
  obtain ⟨slots, defers, esc, rc⟩ := fr
  unfold p50_3
  iterate 1 (refine dKs_eq fun _ _ h => ?_; subst h)
  refine dK0_eq ?_
  refine dN_eq fun h => ?_; subst h
  refine sk_eq (.run (sB (bK (sA (bK (sA (bK (sA (bK (sA (bK (sA (bK (sA (bK (sA (bK (sB (sA (sB (cd PG 50))))))))))))))))))))) (by kernel_rfl) ?_
  generalize execG π PG C = H
  kernel_rfl
noncomputable def p50_26 {α : Type} (π : Prims α) (C : CallF α) (fr : Fr) (σ : St) (k : Ex → Fr → St → Option α) : Option α :=
  (fun no => (dK 1 fr.slots no fun r1 => (dN fr.esc 0 no (k (.exit 0) fr σ)))) (execG π PG C (sB (sB (bK (sA (bK (sA (bK (sA (bK (sA (bK (sA (bK (sB (sA (sB (cd PG 50))))))))))))))))) fr σ k)
theorem p50_26_eq {α : Type} (π : Prims α) (C : CallF α) : execG π PG C (sB (sB (bK (sA (bK (sA (bK (sA (bK (sA (bK (sA (bK (sB (sA (sB (cd PG 50))))))))))))))))) = p50_26 π C := by
  funext fr σ k
  obtain ⟨slots, defers, esc, rc⟩ := fr
  unfold p50_26
  iterate 1 (refine dKs_eq fun _ _ h => ?_; subst h)
  refine dK0_eq ?_
  refine dN_eq fun h => ?_; subst h
  refine sk_eq (.run (sB (sB (bK (sA (bK (sA (bK (sA (bK (sA (bK (sA (bK (sB (sA (sB (cd PG 50)))))))))))))))))) (by kernel_rfl) ?_
  generalize execG π PG C = H
  kernel_rfl
noncomputable def p50_2 {α : Type} (π : Prims α) (C : CallF α) (fr : Fr) (σ : St) (k : Ex → Fr → St → Option α) : Option α :=
  (fun no => (dK 1 fr.slots no fun r1 => (dV r1 no fun t1 r2 => (dK 3 r2 no fun r5 => (dB r5 no fun t5 r6 => (dB r6 no fun t6 r7 => (dK 42 r7 no fun r49 => (dN fr.esc 0 no (π.part false t5 9 1 fun x0 => (C 79 [t1, x0] σ (fun x1 σ2 => (π.put t6 0 3 (.agg zl60) fun c3 => (updS fr [(6, .box c3), (0, .val (.bool true)), (36, .val t1), (0, .ref 5 9), (0, .val x0), (0, .val x1), (0, .val (.agg zl60))] fun fr4 => (k .ret fr4 σ2)))) (fun x5 σ6 => (updS fr [(44, .val t1), (0, .ref 5 9), (0, .val x0)] fun fr7 => (k (.panic x5) fr7 σ6))))))))))))) (execG π PG C (sB (bK (sA (bK (sA (bK (sA (bK (sA (bK (sA (bK (sB (sA (sB (cd PG 50)))))))))))))))) fr σ k)
theorem p50_2_eq {α : Type} (π : Prims α) (C : CallF α) : execG π PG C (sB (bK (sA (bK (sA (bK (sA (bK (sA (bK (sA (bK (sB (sA (sB (cd PG 50)))))))))))))))) = p50_2 π C := by
  funext fr σ k
  obtain ⟨slots, defers, esc, rc⟩ := fr
  unfold p50_2
  iterate 1 (refine dKs_eq fun _ _ h => ?_; subst h)
  refine dK0_eq ?_
  refine dV_eq fun _ _ h => ?_; subst h
  iterate 3 (refine dKs_eq fun _ _ h => ?_; subst h)
  refine dK0_eq ?_
  iterate 2 (refine dB_eq fun _ _ h => ?_; subst h)
  iterate 42 (refine dKs_eq fun _ _ h => ?_; subst h)
  refine dK0_eq ?_
  refine dN_eq fun h => ?_; subst h
  try rw [← p50_26_eq π C]
  refine sk_eq (.seq (.seq (.run (sA (sA (sB (bK (sA (bK (sA (bK (sA (bK (sA (bK (sA (bK (sB (sA (sB (cd PG 50))))))))))))))))))) (.seq (.run (sA (sB (sA (sB (bK (sA (bK (sA (bK (sA (bK (sA (bK (sA (bK (sB (sA (sB (cd PG 50)))))))))))))))))))) (.run (sB (sB (sA (sB (bK (sA (bK (sA (bK (sA (bK (sA (bK (sA (bK (sB (sA (sB (cd PG 50)))))))))))))))))))))) (.hole (sB (sB (bK (sA (bK (sA (bK (sA (bK (sA (bK (sA (bK (sB (sA (sB (cd PG 50))))))))))))))))))) (by kernel_rfl) ?_
  generalize execG π PG C = H
  kernel_rfl
noncomputable def p50_1 {α : Type} (π : Prims α) (C : CallF α) (fr : Fr) (σ : St) (k : Ex → Fr → St → Option α) : Option α :=
  (fun no => (dK 6 fr.slots no fun r6 => (dB r6 no fun t6 r7 => (dK 70 r7 no fun r77 => (dN fr.esc 0 no (π.put t6 0 3 (.agg zl60) fun c0 => (updS fr [(6, .box c0), (0, .val (.bool false)), (68, .val (.agg zl60))] fun fr1 => (k .ret fr1 σ)))))))) (execG π PG C (sB (sB (cd PG 50))) fr σ k)
theorem p50_1_eq {α : Type} (π : Prims α) (C : CallF α) : execG π PG C (sB (sB (cd PG 50))) = p50_1 π C := by
  funext fr σ k
  obtain ⟨slots, defers, esc, rc⟩ := fr
  unfold p50_1
  iterate 6 (refine dKs_eq fun _ _ h => ?_; subst h)
  refine dK0_eq ?_
  refine dB_eq fun _ _ h => ?_; subst h
  iterate 70 (refine dKs_eq fun _ _ h => ?_; subst h)
  refine dK0_eq ?_
  refine dN_eq fun h => ?_; subst h
  refine sk_eq (.seq (.run (sA (sB (sB (cd PG 50))))) (.run (sB (sB (sB (cd PG 50)))))) (by kernel_rfl) ?_
  generalize execG π PG C = H
  kernel_rfl
noncomputable def p50_0 {α : Type} (π : Prims α) (C : CallF α) (fr : Fr) (σ : St) (k : Ex → Fr → St → Option α) : Option α :=
  (fun no => (dK 2 fr.slots no fun r2 => (dV r2 no fun t2 r3 => (dK 9 r3 no fun r12 => (dN fr.esc 0 no (dataF t2 5 fun _ => (nbS fr 5 (AVal.cells t2) fun fr0 => (nbS fr0 6 zl60 fun fr1 => (π.part false (AVal.cells t2) 0 1 fun x2 => (π.bin PG .eql 3 true x2 (.int .i64 (Int.ofNat 17)) fun x3 => (π.cond x3 (fun _ => (updS fr1 [(7, .val (.bool false)), (0, .ref 5 0), (0, .val x2), (0, .val x3), (0, .val x3)] fun fr4 => (p50_5 π C fr4 σ (blkK 2 (seqK (p50_2 π C) (blkK 3 (seqK (p50_6 π C) (blkK 4 (seqK (p50_7 π C) (blkK 5 (seqK (p50_8 π C) (blkK 6 (seqK (p50_9 π C) (blkK 7 (seqK (p50_10 π C) (blkK 0 (seqK (p50_1 π C) k))))))))))))))))) (fun _ => (updS fr1 [(7, .val (.bool false)), (0, .ref 5 0), (0, .val x2), (0, .val x3), (0, .val x3)] fun fr5 => (p50_4 π C fr5 σ (seqK (p50_3 π C) (blkK 1 (seqK (p50_5 π C) (blkK 2 (seqK (p50_2 π C) (blkK 3 (seqK (p50_6 π C) (blkK 4 (seqK (p50_7 π C) (blkK 5 (seqK (p50_8 π C) (blkK 6 (seqK (p50_9 π C) (blkK 7 (seqK (p50_10 π C) (blkK 0 (seqK (p50_1 π C) k))))))))))))))))))))))))))))))) (execG π PG C (cd PG 50) fr σ k)
theorem p50_0_eq {α : Type} (π : Prims α) (C : CallF α) : execG π PG C (cd PG 50) = p50_0 π C := by
  funext fr σ k
  obtain ⟨slots, defers, esc, rc⟩ := fr
  unfold p50_0
  iterate 2 (refine dKs_eq fun _ _ h => ?_; subst h)
  refine dK0_eq ?_
  refine dV_eq fun _ _ h => ?_; subst h
  iterate 9 (refine dKs_eq fun _ _ h => ?_; subst h)
  refine dK0_eq ?_
  refine dN_eq fun h => ?_; subst h
  try rw [← p50_10_eq π C]
  try rw [← p50_9_eq π C]
  try rw [← p50_8_eq π C]
  try rw [← p50_7_eq π C]
  try rw [← p50_6_eq π C]
  try rw [← p50_5_eq π C]
  try rw [← p50_4_eq π C]
  try rw [← p50_3_eq π C]
  try rw [← p50_2_eq π C]
  try rw [← p50_1_eq π C]
  refine sk_eq (.seq (.run (sA (cd PG 50))) (.seq (.seq (.run (sA (sA (sB (cd PG 50))))) (.block 0 (.seq (.block 7 (.seq (.block 6 (.seq (.block 5 (.seq (.block 4 (.seq (.block 3 (.seq (.block 2 (.seq (.block 1 (.seq (.seq (.seq (.run (sA (sA (sA (bK (sA (bK (sA (bK (sA (bK (sA (bK (sA (bK (sA (bK (sA (bK (sB (sA (sB (cd PG 50))))))))))))))))))))))) (.cond (cX (sB (sA (sA (bK (sA (bK (sA (bK (sA (bK (sA (bK (sA (bK (sA (bK (sA (bK (sB (sA (sB (cd PG 50))))))))))))))))))))))) (.run (cA (sB (sA (sA (bK (sA (bK (sA (bK (sA (bK (sA (bK (sA (bK (sA (bK (sA (bK (sB (sA (sB (cd PG 50)))))))))))))))))))))))) (.run (cB (sB (sA (sA (bK (sA (bK (sA (bK (sA (bK (sA (bK (sA (bK (sA (bK (sA (bK (sB (sA (sB (cd PG 50)))))))))))))))))))))))))) (.hole (sB (sA (bK (sA (bK (sA (bK (sA (bK (sA (bK (sA (bK (sA (bK (sA (bK (sB (sA (sB (cd PG 50))))))))))))))))))))))) (.hole (sB (bK (sA (bK (sA (bK (sA (bK (sA (bK (sA (bK (sA (bK (sA (bK (sB (sA (sB (cd PG 50))))))))))))))))))))))) (.hole (sB (bK (sA (bK (sA (bK (sA (bK (sA (bK (sA (bK (sA (bK (sB (sA (sB (cd PG 50))))))))))))))))))))) (.hole (sB (bK (sA (bK (sA (bK (sA (bK (sA (bK (sA (bK (sB (sA (sB (cd PG 50))))))))))))))))))) (.hole (sB (bK (sA (bK (sA (bK (sA (bK (sA (bK (sB (sA (sB (cd PG 50))))))))))))))))) (.hole (sB (bK (sA (bK (sA (bK (sA (bK (sB (sA (sB (cd PG 50))))))))))))))) (.hole (sB (bK (sA (bK (sA (bK (sB (sA (sB (cd PG 50))))))))))))) (.hole (sB (bK (sA (bK (sB (sA (sB (cd PG 50))))))))))) (.hole (sB (bK (sB (sA (sB (cd PG 50)))))))))) (.hole (sB (sB (cd PG 50)))))) (by kernel_rfl) ?_
  generalize execG π PG C = H
  kernel_rfl
-- 5 ravelin/ravelinlaw29 Begin
noncomputable def p5_4 {α : Type} (π : Prims α) (C : CallF α) (fr : Fr) (σ : St) (k : Ex → Fr → St → Option α) : Option α :=
  (fun no => (dK 1 fr.slots no fun r1 => (dB r1 no fun t1 r2 => (dK 2 r2 no fun r4 => (dV r4 no fun t4 r5 => (dK 1 r5 no fun r6 => (dV r6 no fun t6 r7 => (dK 20 r7 no fun r27 => (dV r27 no fun t27 r28 => (dV r28 no fun t28 r29 => (dV r29 no fun t29 r30 => (dV r30 no fun t30 r31 => (dV r31 no fun t31 r32 => (dV r32 no fun t32 r33 => (dV r33 no fun t33 r34 => (dV r34 no fun t34 r35 => (dV r35 no fun t35 r36 => (dV r36 no fun t36 r37 => (dV r37 no fun t37 r38 => (dV r38 no fun t38 r39 => (dV r39 no fun t39 r40 => (dV r40 no fun t40 r41 => (dV r41 no fun t41 r42 => (dN fr.esc 0 no (π.nc t4 fun _ => (π.add t4 0 fun x0 => (π.ld σ false 1 x0 fun x1 => (π.bin PG .mul 3 true (.int .i64 (Int.ofNat 4)) t6 fun x2 => (π.conv PG 3 22 x2 fun x3 => (π.bin PG .add 22 true (.int .u64 (Int.ofNat 2147493888)) x3 fun x4 => (π.part false t1 401 1 fun x5 => (π.idxAddr PG 33 x5 t6 fun x6 => (π.ld σ false 1 x6 fun x7 => (π.conv PG 32 22 x7 fun x8 => ((lockCall false C) 7 [x1, x4, (.int .i64 (Int.ofNat 4)), x8] σ (fun x9 σ10 => (π.bin PG .add 3 true t6 (.int .i64 (Int.ofNat 1)) fun x11 => (updS fr [(6, .val x11), (18, .val t6), (0, .val x11), (0, .val t4), (0, .val t4), (0, .val x0), (0, .val x1), (0, .val t6), (0, .val x2), (0, .val x3), (0, .val x4), (0, .ref 1 401), (0, .val x5), (0, .val t6), (0, .val x6), (0, .val x7), (0, .val x8), (0, .val x9)] fun fr12 => (k .normal fr12 σ10)))) (fun x13 σ14 => none)))))))))))))))))))))))))))))))))))) (execG π PG C (sB (lK (bK (sB (sA (sB (sB (sB (sB (cd PG 5)))))))))) fr σ k)
theorem p5_4_eq {α : Type} (π : Prims α) (C : CallF α) : execG π PG C (sB (lK (bK (sB (sA (sB (sB (sB (sB (cd PG 5)))))))))) = p5_4 π C := by
  funext fr σ k
  obtain ⟨slots, defers, esc, rc⟩ := fr
  unfold p5_4
  iterate 1 (refine dKs_eq fun _ _ h => ?_; subst h)
  refine dK0_eq ?_
  refine dB_eq fun _ _ h => ?_; subst h
  iterate 2 (refine dKs_eq fun _ _ h => ?_; subst h)
  refine dK0_eq ?_
  refine dV_eq fun _ _ h => ?_; subst h
  iterate 1 (refine dKs_eq fun _ _ h => ?_; subst h)
  refine dK0_eq ?_
  refine dV_eq fun _ _ h => ?_; subst h
  iterate 20 (refine dKs_eq fun _ _ h => ?_; subst h)
  refine dK0_eq ?_
  iterate 15 (refine dV_eq fun _ _ h => ?_; subst h)
  refine dN_eq fun h => ?_; subst h
  refine sk_eq (.seq (.block 1 (.run (bK (sA (sB (lK (bK (sB (sA (sB (sB (sB (sB (cd PG 5)))))))))))))) (.run (sB (sB (lK (bK (sB (sA (sB (sB (sB (sB (cd PG 5))))))))))))) (by kernel_rfl) ?_
  generalize execG π PG C = H
  kernel_rfl
noncomputable def p5_3 {α : Type} (π : Prims α) (C : CallF α) (fr : Fr) (σ : St) (k : Ex → Fr → St → Option α) : Option α :=
  (fun no => (dK 24 fr.slots no fun r24 => (dV r24 no fun t24 r25 => (dN fr.esc 0 no (π.cond t24 (fun _ => (k .normal fr σ)) (fun _ => (k (.exit 0) fr σ))))))) (execG π PG C (sB (sA (lK (bK (sB (sA (sB (sB (sB (sB (cd PG 5))))))))))) fr σ k)
theorem p5_3_eq {α : Type} (π : Prims α) (C : CallF α) : execG π PG C (sB (sA (lK (bK (sB (sA (sB (sB (sB (sB (cd PG 5))))))))))) = p5_3 π C := by
  funext fr σ k
  obtain ⟨slots, defers, esc, rc⟩ := fr
  unfold p5_3
  iterate 24 (refine dKs_eq fun _ _ h => ?_; subst h)
  refine dK0_eq ?_
  refine dV_eq fun _ _ h => ?_; subst h
  refine dN_eq fun h => ?_; subst h
  refine sk_eq (.cond (cX (sB (sA (lK (bK (sB (sA (sB (sB (sB (sB (cd PG 5)))))))))))) (.run (cA (sB (sA (lK (bK (sB (sA (sB (sB (sB (sB (cd PG 5))))))))))))) (.run (cB (sB (sA (lK (bK (sB (sA (sB (sB (sB (sB (cd PG 5)))))))))))))) (by kernel_rfl) ?_
  generalize execG π PG C = H
  kernel_rfl
noncomputable def p5_2 {α : Type} (π : Prims α) (C : CallF α) (fr : Fr) (σ : St) (k : Ex → Fr → St → Option α) : Option α :=
  (fun no => (dK 1 fr.slots no fun r1 => (dB r1 no fun t1 r2 => (dK 4 r2 no fun r6 => (dV r6 no fun t6 r7 => (dK 18 r7 no fun r25 => (dN fr.esc 0 no (π.part false t1 401 1 fun x0 => (π.len PG 33 x0 fun x1 => (π.bin PG .lss 3 false t6 x1 fun x2 => (gdF x2 (fun _ => (π.bin PG .lss 3 true t6 (.int .i64 (Int.ofNat 200)) fun x3 => (updS fr [(16, .val t6), (0, .ref 1 401), (0, .val x0), (0, .val x1), (0, .val x2), (0, .val (.bool true)), (0, .val t6), (0, .val x3), (0, .val x3)] fun fr4 => (p5_3 π C fr4 σ (seqK (p5_4 π C) k))))) (fun _ => (updS fr [(16, .val t6), (0, .ref 1 401), (0, .val x0), (0, .val x1), (0, .val x2), (0, .val (.bool false)), (0, .val (.tuple [])), (0, .val (.tuple [])), (0, .val (.bool false))] fun fr5 => (p5_3 π C fr5 σ (seqK (p5_4 π C) k)))) (fun _ => none)))))))))))) (execG π PG C (lK (bK (sB (sA (sB (sB (sB (sB (cd PG 5))))))))) fr σ k)
theorem p5_2_eq {α : Type} (π : Prims α) (C : CallF α) : execG π PG C (lK (bK (sB (sA (sB (sB (sB (sB (cd PG 5))))))))) = p5_2 π C := by
  funext fr σ k
  obtain ⟨slots, defers, esc, rc⟩ := fr
  unfold p5_2
  iterate 1 (refine dKs_eq fun _ _ h => ?_; subst h)
  refine dK0_eq ?_
  refine dB_eq fun _ _ h => ?_; subst h
  iterate 4 (refine dKs_eq fun _ _ h => ?_; subst h)
  refine dK0_eq ?_
  refine dV_eq fun _ _ h => ?_; subst h
  iterate 18 (refine dKs_eq fun _ _ h => ?_; subst h)
  refine dK0_eq ?_
  refine dN_eq fun h => ?_; subst h
  try rw [← p5_4_eq π C]
  try rw [← p5_3_eq π C]
  refine sk_eq (.seq (.seq (.run (sA (sA (lK (bK (sB (sA (sB (sB (sB (sB (cd PG 5)))))))))))) (.hole (sB (sA (lK (bK (sB (sA (sB (sB (sB (sB (cd PG 5))))))))))))) (.hole (sB (lK (bK (sB (sA (sB (sB (sB (sB (cd PG 5)))))))))))) (by kernel_rfl) ?_
  generalize execG π PG C = H
  kernel_rfl
noncomputable def p5_5 {α : Type} (π : Prims α) (C : CallF α) (fr : Fr) (σ : St) (k : Ex → Fr → St → Option α) : Option α :=
  (fun no => (dK 2 fr.slots no fun r2 => (dV r2 no fun t2 r3 => (dB r3 no fun t3 r4 => (dV r4 no fun t4 r5 => (dB r5 no fun t5 r6 => (dK 40 r6 no fun r46 => (dV r46 no fun t46 r47 => (dV r47 no fun t47 r48 => (dN fr.esc 0 no (π.part true t5 0 396 fun x0 => (π.put t3 0 396 x0 fun c1 => (updS fr [(2, .val t4), (0, .box c1), (42, .val t4), (0, .val x0)] fun fr2 => (k .ret fr2 σ)))))))))))))) (execG π PG C (sB (sB (sB (sB (sB (sB (cd PG 5))))))) fr σ k)
theorem p5_5_eq {α : Type} (π : Prims α) (C : CallF α) : execG π PG C (sB (sB (sB (sB (sB (sB (cd PG 5))))))) = p5_5 π C := by
  funext fr σ k
  obtain ⟨slots, defers, esc, rc⟩ := fr
  unfold p5_5
  iterate 2 (refine dKs_eq fun _ _ h => ?_; subst h)
  refine dK0_eq ?_
  refine dV_eq fun _ _ h => ?_; subst h
  refine dB_eq fun _ _ h => ?_; subst h
  refine dV_eq fun _ _ h => ?_; subst h
  refine dB_eq fun _ _ h => ?_; subst h
  iterate 40 (refine dKs_eq fun _ _ h => ?_; subst h)
  refine dK0_eq ?_
  iterate 2 (refine dV_eq fun _ _ h => ?_; subst h)
  refine dN_eq fun h => ?_; subst h
  refine sk_eq (.seq (.run (sA (sB (sB (sB (sB (sB (sB (cd PG 5))))))))) (.run (sB (sB (sB (sB (sB (sB (sB (cd PG 5)))))))))) (by kernel_rfl) ?_
  generalize execG π PG C = H
  kernel_rfl
noncomputable def p5_1 {α : Type} (π : Prims α) (C : CallF α) (fr : Fr) (σ : St) (k : Ex → Fr → St → Option α) : Option α :=
  (fun no => (dK 1 fr.slots no fun r1 => (dB r1 no fun t1 r2 => (dK 3 r2 no fun r5 => (dB r5 no fun t5 r6 => (dK 40 r6 no fun r46 => (dN fr.esc 0 no (π.part false t1 402 1 fun x0 => (π.cond x0 (fun _ => (π.put t5 296 1 (.int .u64 (Int.ofNat 2147493888)) fun c1 => (updS fr [(5, .box c1), (36, .ref 1 402), (0, .val x0), (0, .ref 5 288), (0, .ref 5 296)] fun fr2 => (p5_5 π C fr2 σ k)))) (fun _ => (updS fr [(42, .ref 1 402), (0, .val x0)] fun fr3 => (p5_5 π C fr3 σ k)))))))))))) (execG π PG C (sB (sB (sB (sB (sB (cd PG 5)))))) fr σ k)
theorem p5_1_eq {α : Type} (π : Prims α) (C : CallF α) : execG π PG C (sB (sB (sB (sB (sB (cd PG 5)))))) = p5_1 π C := by
  funext fr σ k
  obtain ⟨slots, defers, esc, rc⟩ := fr
  unfold p5_1
  iterate 1 (refine dKs_eq fun _ _ h => ?_; subst h)
  refine dK0_eq ?_
  refine dB_eq fun _ _ h => ?_; subst h
  iterate 3 (refine dKs_eq fun _ _ h => ?_; subst h)
  refine dK0_eq ?_
  refine dB_eq fun _ _ h => ?_; subst h
  iterate 40 (refine dKs_eq fun _ _ h => ?_; subst h)
  refine dK0_eq ?_
  refine dN_eq fun h => ?_; subst h
  try rw [← p5_5_eq π C]
  refine sk_eq (.seq (.seq (.run (sA (sA (sB (sB (sB (sB (sB (cd PG 5))))))))) (.cond (cX (sB (sA (sB (sB (sB (sB (sB (cd PG 5))))))))) (.run (cA (sB (sA (sB (sB (sB (sB (sB (cd PG 5)))))))))) (.run (cB (sB (sA (sB (sB (sB (sB (sB (cd PG 5)))))))))))) (.hole (sB (sB (sB (sB (sB (sB (cd PG 5))))))))) (by kernel_rfl) ?_
  generalize execG π PG C = H
  kernel_rfl
noncomputable def p5_0 {α : Type} (π : Prims α) (C : CallF α) (fr : Fr) (σ : St) (k : Ex → Fr → St → Option α) : Option α :=
  (fun no => (dV fr.slots no fun t0 r1 => (dK 14 r1 no fun r15 => (dV r15 no fun t15 r16 => (dN fr.esc 0 no (dataF t0 1 fun _ => (nbS fr 1 (AVal.cells t0) fun fr0 => (updS fr0 [(2, .val (.ptr none))] fun fr1 => (nbS fr1 3 zl27 fun fr2 => (π.part true (AVal.cells t0) 0 5 fun x3 => (C 11 [x3] σ (fun x4 σ5 => (π.part true (AVal.cells t0) 5 396 fun x6 => (C 12 [x6] σ5 (fun x7 σ8 => (updS fr2 [(4, .val x4), (2, .ref 1 0), (0, .val x3), (0, .val x4), (0, .ref 1 5), (0, .val x6), (0, .val x7)] fun fr9 => (nbS fr9 5 zl27 fun fr10 => (π.put zl27 0 396 x7 fun c11 => (π.bin PG .eql 29 true x4 (.ptr none) fun x12 => (π.cond x12 (fun _ => (π.part true c11 0 396 fun x13 => (π.put zl27 0 396 x13 fun c14 => (updS fr10 [(2, .val (.ptr none)), (0, .box c14), (1, .box c11), (7, .val x4), (0, .val x12), (0, .val x13)] fun fr15 => (k .ret fr15 σ8))))) (fun _ => (updS fr10 [(5, .box c11), (0, .val (.int .i64 (Int.ofNat 0))), (6, .val x4), (0, .val x12)] fun fr16 => (π.loop (p5_2 π C) fr16 σ8 (blkK 0 (seqK (p5_1 π C) k))))))))))) (fun x17 σ18 => (updS fr2 [(4, .val x4), (2, .ref 1 0), (0, .val x3), (0, .val x4), (0, .ref 1 5), (0, .val x6)] fun fr19 => (k (.panic x17) fr19 σ18)))))) (fun x20 σ21 => (updS fr2 [(7, .ref 1 0), (0, .val x3)] fun fr22 => (k (.panic x20) fr22 σ21)))))))))))))) (execG π PG C (cd PG 5) fr σ k)
theorem p5_0_eq {α : Type} (π : Prims α) (C : CallF α) : execG π PG C (cd PG 5) = p5_0 π C := by
  funext fr σ k
  obtain ⟨slots, defers, esc, rc⟩ := fr
  unfold p5_0
  refine dV_eq fun _ _ h => ?_; subst h
  iterate 14 (refine dKs_eq fun _ _ h => ?_; subst h)
  refine dK0_eq ?_
  refine dV_eq fun _ _ h => ?_; subst h
  refine dN_eq fun h => ?_; subst h
  try rw [← p5_2_eq π C]
  try rw [← p5_1_eq π C]
  refine sk_eq (.seq (.run (sA (cd PG 5))) (.seq (.run (sA (sB (cd PG 5)))) (.seq (.run (sA (sB (sB (cd PG 5))))) (.seq (.seq (.run (sA (sA (sB (sB (sB (cd PG 5))))))) (.cond (cX (sB (sA (sB (sB (sB (cd PG 5))))))) (.seq (.run (sA (cA (sB (sA (sB (sB (sB (cd PG 5))))))))) (.run (sB (cA (sB (sA (sB (sB (sB (cd PG 5)))))))))) (.run (cB (sB (sA (sB (sB (sB (cd PG 5)))))))))) (.seq (.seq (.run (sA (sA (sB (sB (sB (sB (cd PG 5)))))))) (.block 0 (.loopH (lK (bK (sB (sA (sB (sB (sB (sB (cd PG 5)))))))))))) (.hole (sB (sB (sB (sB (sB (cd PG 5)))))))))))) (by kernel_rfl) ?_
  generalize execG π PG C = H
  kernel_rfl
-- 113 (ravelin/xint doing) arith
noncomputable def p113_3 {α : Type} (π : Prims α) (C : CallF α) (fr : Fr) (σ : St) (k : Ex → Fr → St → Option α) : Option α :=
  (fun no => (dK 2 fr.slots no fun r2 => (dB r2 no fun t2 r3 => (dK 5 r3 no fun r8 => (dV r8 no fun t8 r9 => (dK 47 r9 no fun r56 => (dN fr.esc 0 no (π.put t2 0 3 (.agg zl60) fun c0 => (updS fr [(2, .box c0), (0, .val t8), (50, .val (.agg zl60)), (0, .val t8)] fun fr1 => (k .ret fr1 σ)))))))))) (execG π PG C (sB (sB (sB (sB (sB (sB (sB (cd PG 113)))))))) fr σ k)
theorem p113_3_eq {α : Type} (π : Prims α) (C : CallF α) : execG π PG C (sB (sB (sB (sB (sB (sB (sB (cd PG 113)))))))) = p113_3 π C := by
  funext fr σ k
  obtain ⟨slots, defers, esc, rc⟩ := fr
  unfold p113_3
  iterate 2 (refine dKs_eq fun _ _ h => ?_; subst h)
  refine dK0_eq ?_
  refine dB_eq fun _ _ h => ?_; subst h
  iterate 5 (refine dKs_eq fun _ _ h => ?_; subst h)
  refine dK0_eq ?_
  refine dV_eq fun _ _ h => ?_; subst h
  iterate 47 (refine dKs_eq fun _ _ h => ?_; subst h)
  refine dK0_eq ?_
  refine dN_eq fun h => ?_; subst h
  refine sk_eq (.seq (.run (sA (sB (sB (sB (sB (sB (sB (sB (cd PG 113)))))))))) (.run (sB (sB (sB (sB (sB (sB (sB (sB (cd PG 113))))))))))) (by kernel_rfl) ?_
  generalize execG π PG C = H
  kernel_rfl
noncomputable def p113_2 {α : Type} (π : Prims α) (C : CallF α) (fr : Fr) (σ : St) (k : Ex → Fr → St → Option α) : Option α :=
  (fun no => (dK 1 fr.slots no fun r1 => (dB r1 no fun t1 r2 => (dK 2 r2 no fun r4 => (dV r4 no fun t4 r5 => (dV r5 no fun t5 r6 => (dV r6 no fun t6 r7 => (dK 41 r7 no fun r48 => (dV r48 no fun t48 r49 => (dV r49 no fun t49 r50 => (dV r50 no fun t50 r51 => (dV r51 no fun t51 r52 => (dV r52 no fun t52 r53 => (dV r53 no fun t53 r54 => (dN fr.esc 0 no (π.part false t1 2 1 fun x0 => (π.part false t1 8 1 fun x1 => (callV C t6 [x0, x1, t4, t5] σ (fun x2 σ3 => (π.extract x2 0 fun x4 => (π.extract x2 1 fun x5 => (π.cond x5 (fun _ => (π.part true t1 0 12 fun x6 => (C 179 [x6, x4] σ3 (fun x7 σ8 => (π.part false t1 0 1 fun x9 => (π.part true t1 0 12 fun x10 => ((lockCall true C) 180 [x10] σ8 (fun x11 σ12 => (π.nc x9 fun _ => (π.add x9 288 fun x13 => (π.st σ12 9 x13 x11 fun σ14 => (updS fr [(7, .val x4), (0, .val x5), (22, .val x2), (0, .val t6), (0, .ref 1 1), (0, .ref 1 2), (0, .val x0), (0, .ref 1 1), (0, .ref 1 8), (0, .val x1), (0, .val t4), (0, .val t5), (0, .val x2), (0, .val x4), (0, .val x5), (0, .val x5), (0, .val x6), (0, .val x4), (0, .val x7), (0, .ref 1 0), (0, .val x9), (0, .val x10), (0, .val x11), (0, .val x9), (0, .val x13)] fun fr15 => (p113_3 π C fr15 σ14 k)))))) (fun x16 σ17 => none))))) (fun x18 σ19 => (updS fr [(7, .val x4), (0, .val x5), (22, .val x2), (0, .val t6), (0, .ref 1 1), (0, .ref 1 2), (0, .val x0), (0, .ref 1 1), (0, .ref 1 8), (0, .val x1), (0, .val t4), (0, .val t5), (0, .val x2), (0, .val x4), (0, .val x5), (0, .val x5), (0, .val x6), (0, .val x4)] fun fr20 => (k (.panic x18) fr20 σ19)))))) (fun _ => (updS fr [(7, .val x4), (0, .val x5), (22, .val x2), (0, .val t6), (0, .ref 1 1), (0, .ref 1 2), (0, .val x0), (0, .ref 1 1), (0, .ref 1 8), (0, .val x1), (0, .val t4), (0, .val t5), (0, .val x2), (0, .val x4), (0, .val x5), (0, .val x5)] fun fr21 => (p113_3 π C fr21 σ3 k))))))) (fun x22 σ23 => (updS fr [(32, .val t6), (0, .ref 1 1), (0, .ref 1 2), (0, .val x0), (0, .ref 1 1), (0, .ref 1 8), (0, .val x1), (0, .val t4), (0, .val t5)] fun fr24 => (k (.panic x22) fr24 σ23))))))))))))))))))))) (execG π PG C (sB (sB (sB (sB (sB (cd PG 113)))))) fr σ k)
theorem p113_2_eq {α : Type} (π : Prims α) (C : CallF α) : execG π PG C (sB (sB (sB (sB (sB (cd PG 113)))))) = p113_2 π C := by
  funext fr σ k
  obtain ⟨slots, defers, esc, rc⟩ := fr
  unfold p113_2
  iterate 1 (refine dKs_eq fun _ _ h => ?_; subst h)
  refine dK0_eq ?_
  refine dB_eq fun _ _ h => ?_; subst h
  iterate 2 (refine dKs_eq fun _ _ h => ?_; subst h)
  refine dK0_eq ?_
  iterate 3 (refine dV_eq fun _ _ h => ?_; subst h)
  iterate 41 (refine dKs_eq fun _ _ h => ?_; subst h)
  refine dK0_eq ?_
  iterate 6 (refine dV_eq fun _ _ h => ?_; subst h)
  refine dN_eq fun h => ?_; subst h
  try rw [← p113_3_eq π C]
  refine sk_eq (.seq (.run (sA (sB (sB (sB (sB (sB (cd PG 113)))))))) (.seq (.seq (.run (sA (sA (sB (sB (sB (sB (sB (sB (cd PG 113)))))))))) (.cond (cX (sB (sA (sB (sB (sB (sB (sB (sB (cd PG 113)))))))))) (.seq (.run (sA (cA (sB (sA (sB (sB (sB (sB (sB (sB (cd PG 113)))))))))))) (.run (sB (cA (sB (sA (sB (sB (sB (sB (sB (sB (cd PG 113))))))))))))) (.run (cB (sB (sA (sB (sB (sB (sB (sB (sB (cd PG 113))))))))))))) (.hole (sB (sB (sB (sB (sB (sB (sB (cd PG 113))))))))))) (by kernel_rfl) ?_
  generalize execG π PG C = H
  kernel_rfl
noncomputable def p113_1 {α : Type} (π : Prims α) (C : CallF α) (fr : Fr) (σ : St) (k : Ex → Fr → St → Option α) : Option α :=
  (fun no => (dK 1 fr.slots no fun r1 => (dB r1 no fun t1 r2 => (dK 29 r2 no fun r31 => (dN fr.esc 0 no (π.part false t1 1 1 fun x0 => (π.bin PG .eql 3 true x0 (.int .i64 (Int.ofNat 10)) fun x1 => (π.cond x1 (fun _ => (updS fr [(6, .val (.func (.func 185) [] [])), (20, .ref 1 1), (0, .ref 1 1), (0, .val x0), (0, .val x1)] fun fr2 => (p113_2 π C fr2 σ k))) (fun _ => (updS fr [(6, .val (.func (.func 184) [] [])), (20, .ref 1 1), (0, .ref 1 1), (0, .val x0), (0, .val x1)] fun fr3 => (p113_2 π C fr3 σ k))))))))))) (execG π PG C (sB (sB (sB (cd PG 113)))) fr σ k)
theorem p113_1_eq {α : Type} (π : Prims α) (C : CallF α) : execG π PG C (sB (sB (sB (cd PG 113)))) = p113_1 π C := by
  funext fr σ k
  obtain ⟨slots, defers, esc, rc⟩ := fr
  unfold p113_1
  iterate 1 (refine dKs_eq fun _ _ h => ?_; subst h)
  refine dK0_eq ?_
  refine dB_eq fun _ _ h => ?_; subst h
  iterate 29 (refine dKs_eq fun _ _ h => ?_; subst h)
  refine dK0_eq ?_
  refine dN_eq fun h => ?_; subst h
  try rw [← p113_2_eq π C]
  refine sk_eq (.seq (.run (sA (sB (sB (sB (cd PG 113)))))) (.seq (.seq (.run (sA (sA (sB (sB (sB (sB (cd PG 113)))))))) (.cond (cX (sB (sA (sB (sB (sB (sB (cd PG 113)))))))) (.run (cA (sB (sA (sB (sB (sB (sB (cd PG 113))))))))) (.run (cB (sB (sA (sB (sB (sB (sB (cd PG 113))))))))))) (.hole (sB (sB (sB (sB (sB (cd PG 113))))))))) (by kernel_rfl) ?_
  generalize execG π PG C = H
  kernel_rfl
noncomputable def p113_0 {α : Type} (π : Prims α) (C : CallF α) (fr : Fr) (σ : St) (k : Ex → Fr → St → Option α) : Option α :=
  (fun no => (dV fr.slots no fun t0 r1 => (dK 3 r1 no fun r4 => (dV r4 no fun t4 r5 => (dV r5 no fun t5 r6 => (dK 3 r6 no fun r9 => (dV r9 no fun t9 r10 => (dV r10 no fun t10 r11 => (dV r11 no fun t11 r12 => (dV r12 no fun t12 r13 => (dV r13 no fun t13 r14 => (dV r14 no fun t14 r15 => (dV r15 no fun t15 r16 => (dV r16 no fun t16 r17 => (dV r17 no fun t17 r18 => (dV r18 no fun t18 r19 => (dK 8 r19 no fun r27 => (dN fr.esc 0 no (dataF t0 1 fun _ => (nbS fr 1 (AVal.cells t0) fun fr0 => (nbS fr0 2 zl60 fun fr1 => (π.part true (AVal.cells t0) 0 12 fun x2 => (π.part false (AVal.cells t0) 4 1 fun x3 => ((lockCall true C) 183 [x2, x3] σ (fun x4 σ5 => (π.part true (AVal.cells t0) 0 12 fun x6 => (π.part false (AVal.cells t0) 5 1 fun x7 => ((lockCall false C) 183 [x6, x7] σ5 (fun x8 σ9 => (π.part false (AVal.cells t0) 1 1 fun x10 => (π.bin PG .eql 3 true x10 (.int .i64 (Int.ofNat 8)) fun x11 => (π.cond x11 (fun _ => (π.part false (AVal.cells t0) 6 1 fun x12 => (π.conv PG 3 22 x12 fun x13 => (updS fr1 [(3, .val (.bool false)), (0, .val x4), (0, .val x13), (3, .val x2), (0, .ref 1 1), (0, .ref 1 4), (0, .val x3), (0, .val x4), (0, .val x6), (0, .ref 1 1), (0, .ref 1 5), (0, .val x7), (0, .val x8), (0, .ref 1 1), (0, .ref 1 1), (0, .val x10), (0, .val x11), (0, .ref 1 1), (0, .ref 1 6), (0, .val x12), (0, .val x13)] fun fr14 => (p113_1 π C fr14 σ9 k))))) (fun _ => (updS fr1 [(3, .val (.bool false)), (0, .val x4), (0, .val x8), (3, .val x2), (0, .ref 1 1), (0, .ref 1 4), (0, .val x3), (0, .val x4), (0, .val x6), (0, .ref 1 1), (0, .ref 1 5), (0, .val x7), (0, .val x8), (0, .ref 1 1), (0, .ref 1 1), (0, .val x10), (0, .val x11)] fun fr15 => (p113_1 π C fr15 σ9 k))))))) (fun x16 σ17 => none))))) (fun x18 σ19 => none))))))))))))))))))))))))) (execG π PG C (cd PG 113) fr σ k)
theorem p113_0_eq {α : Type} (π : Prims α) (C : CallF α) : execG π PG C (cd PG 113) = p113_0 π C := by
  funext fr σ k
  obtain ⟨slots, defers, esc, rc⟩ := fr
  unfold p113_0
  refine dV_eq fun _ _ h => ?_; subst h
  iterate 3 (refine dKs_eq fun _ _ h => ?_; subst h)
  refine dK0_eq ?_
  iterate 2 (refine dV_eq fun _ _ h => ?_; subst h)
  iterate 3 (refine dKs_eq fun _ _ h => ?_; subst h)
  refine dK0_eq ?_
  iterate 10 (refine dV_eq fun _ _ h => ?_; subst h)
  iterate 8 (refine dKs_eq fun _ _ h => ?_; subst h)
  refine dK0_eq ?_
  refine dN_eq fun h => ?_; subst h
  try rw [← p113_1_eq π C]
  refine sk_eq (.seq (.run (sA (cd PG 113))) (.seq (.run (sA (sB (cd PG 113)))) (.seq (.seq (.run (sA (sA (sB (sB (cd PG 113)))))) (.cond (cX (sB (sA (sB (sB (cd PG 113)))))) (.run (cA (sB (sA (sB (sB (cd PG 113))))))) (.run (cB (sB (sA (sB (sB (cd PG 113))))))))) (.hole (sB (sB (sB (cd PG 113)))))))) (by kernel_rfl) ?_
  generalize execG π PG C = H
  kernel_rfl
-- 32 ravelin/intr first
noncomputable def p32_4 {α : Type} (π : Prims α) (C : CallF α) (fr : Fr) (σ : St) (k : Ex → Fr → St → Option α) : Option α :=
  (fun no => (dK 7 fr.slots no fun r7 => (dV r7 no fun t7 r8 => (dK 9 r8 no fun r17 => (dN fr.esc 0 no (π.bin PG .add 3 true t7 (.int .i64 (Int.ofNat 1)) fun x0 => (updS fr [(7, .val x0), (8, .val x0)] fun fr1 => (k .normal fr1 σ)))))))) (execG π PG C (sB (sB (sB (lK (bK (sB (sA (sB (sB (oK (sB (cd PG 32)))))))))))) fr σ k)
theorem p32_4_eq {α : Type} (π : Prims α) (C : CallF α) : execG π PG C (sB (sB (sB (lK (bK (sB (sA (sB (sB (oK (sB (cd PG 32)))))))))))) = p32_4 π C := by
  funext fr σ k
  obtain ⟨slots, defers, esc, rc⟩ := fr
  unfold p32_4
  iterate 7 (refine dKs_eq fun _ _ h => ?_; subst h)
  refine dK0_eq ?_
  refine dV_eq fun _ _ h => ?_; subst h
  iterate 9 (refine dKs_eq fun _ _ h => ?_; subst h)
  refine dK0_eq ?_
  refine dN_eq fun h => ?_; subst h
  refine sk_eq (.run (sB (sB (sB (lK (bK (sB (sA (sB (sB (oK (sB (cd PG 32))))))))))))) (by kernel_rfl) ?_
  generalize execG π PG C = H
  kernel_rfl
noncomputable def p32_3 {α : Type} (π : Prims α) (C : CallF α) (fr : Fr) (σ : St) (k : Ex → Fr → St → Option α) : Option α :=
  (fun no => (dV fr.slots no fun t0 r1 => (dK 5 r1 no fun r6 => (dV r6 no fun t6 r7 => (dV r7 no fun t7 r8 => (dK 8 r8 no fun r16 => (dN fr.esc 0 no (π.idx PG 155 t6 t7 fun x0 => (π.bin PG .shr 22 false t0 x0 fun x1 => (π.bin PG .and 22 true x1 (.int .u64 (Int.ofNat 1)) fun x2 => (π.bin PG .eql 22 true x2 (.int .u64 (Int.ofNat 1)) fun x3 => (π.cond x3 (fun _ => (updS fr [(3, .val x0), (1, .val x0), (3, .val x0), (0, .val t0), (0, .val x0), (0, .val x1), (0, .val x2), (0, .val x3), (0, .val x0)] fun fr4 => (k (.exit 0) fr4 σ))) (fun _ => (updS fr [(5, .val x0), (3, .val x0), (0, .val t0), (0, .val x0), (0, .val x1), (0, .val x2), (0, .val x3)] fun fr5 => (p32_4 π C fr5 σ k))))))))))))))) (execG π PG C (sB (sB (lK (bK (sB (sA (sB (sB (oK (sB (cd PG 32))))))))))) fr σ k)
theorem p32_3_eq {α : Type} (π : Prims α) (C : CallF α) : execG π PG C (sB (sB (lK (bK (sB (sA (sB (sB (oK (sB (cd PG 32))))))))))) = p32_3 π C := by
  funext fr σ k
  obtain ⟨slots, defers, esc, rc⟩ := fr
  unfold p32_3
  refine dV_eq fun _ _ h => ?_; subst h
  iterate 5 (refine dKs_eq fun _ _ h => ?_; subst h)
  refine dK0_eq ?_
  iterate 2 (refine dV_eq fun _ _ h => ?_; subst h)
  iterate 8 (refine dKs_eq fun _ _ h => ?_; subst h)
  refine dK0_eq ?_
  refine dN_eq fun h => ?_; subst h
  try rw [← p32_4_eq π C]
  refine sk_eq (.seq (.block 1 (.seq (.run (sA (bK (sA (sB (sB (lK (bK (sB (sA (sB (sB (oK (sB (cd PG 32))))))))))))))) (.seq (.run (sA (sB (bK (sA (sB (sB (lK (bK (sB (sA (sB (sB (oK (sB (cd PG 32)))))))))))))))) (.cond (cX (sB (sB (bK (sA (sB (sB (lK (bK (sB (sA (sB (sB (oK (sB (cd PG 32)))))))))))))))) (.seq (.run (sA (cA (sB (sB (bK (sA (sB (sB (lK (bK (sB (sA (sB (sB (oK (sB (cd PG 32)))))))))))))))))) (.run (sB (cA (sB (sB (bK (sA (sB (sB (lK (bK (sB (sA (sB (sB (oK (sB (cd PG 32))))))))))))))))))) (.run (cB (sB (sB (bK (sA (sB (sB (lK (bK (sB (sA (sB (sB (oK (sB (cd PG 32))))))))))))))))))))) (.hole (sB (sB (sB (lK (bK (sB (sA (sB (sB (oK (sB (cd PG 32)))))))))))))) (by kernel_rfl) ?_
  generalize execG π PG C = H
  kernel_rfl
noncomputable def p32_2 {α : Type} (π : Prims α) (C : CallF α) (fr : Fr) (σ : St) (k : Ex → Fr → St → Option α) : Option α :=
  (fun no => (dK 7 fr.slots no fun r7 => (dV r7 no fun t7 r8 => (dK 1 r8 no fun r9 => (dN fr.esc 0 no (π.bin PG .lss 3 true t7 (.int .i64 (Int.ofNat 6)) fun x0 => (π.cond x0 (fun _ => (updS fr [(8, .val x0)] fun fr1 => (p32_3 π C fr1 σ k))) (fun _ => (updS fr [(8, .val x0)] fun fr2 => (k (.exit 0) fr2 σ)))))))))) (execG π PG C (lK (bK (sB (sA (sB (sB (oK (sB (cd PG 32))))))))) fr σ k)
theorem p32_2_eq {α : Type} (π : Prims α) (C : CallF α) : execG π PG C (lK (bK (sB (sA (sB (sB (oK (sB (cd PG 32))))))))) = p32_2 π C := by
  funext fr σ k
  obtain ⟨slots, defers, esc, rc⟩ := fr
  unfold p32_2
  iterate 7 (refine dKs_eq fun _ _ h => ?_; subst h)
  refine dK0_eq ?_
  refine dV_eq fun _ _ h => ?_; subst h
  iterate 1 (refine dKs_eq fun _ _ h => ?_; subst h)
  refine dK0_eq ?_
  refine dN_eq fun h => ?_; subst h
  try rw [← p32_3_eq π C]
  refine sk_eq (.seq (.run (sA (lK (bK (sB (sA (sB (sB (oK (sB (cd PG 32))))))))))) (.seq (.cond (cX (sA (sB (lK (bK (sB (sA (sB (sB (oK (sB (cd PG 32)))))))))))) (.run (cA (sA (sB (lK (bK (sB (sA (sB (sB (oK (sB (cd PG 32))))))))))))) (.run (cB (sA (sB (lK (bK (sB (sA (sB (sB (oK (sB (cd PG 32)))))))))))))) (.hole (sB (sB (lK (bK (sB (sA (sB (sB (oK (sB (cd PG 32)))))))))))))) (by kernel_rfl) ?_
  generalize execG π PG C = H
  kernel_rfl
noncomputable def p32_1 {α : Type} (π : Prims α) (C : CallF α) (fr : Fr) (σ : St) (k : Ex → Fr → St → Option α) : Option α :=
  (fun no => (dK 3 fr.slots no fun r3 => (dV r3 no fun t3 r4 => (dK 14 r4 no fun r18 => (dN fr.esc 0 no (updS fr [(2, .val t3), (14, .val t3)] fun fr0 => (k .ret fr0 σ))))))) (execG π PG C (sB (sB (sB (oK (sB (cd PG 32)))))) fr σ k)
theorem p32_1_eq {α : Type} (π : Prims α) (C : CallF α) : execG π PG C (sB (sB (sB (oK (sB (cd PG 32)))))) = p32_1 π C := by
  funext fr σ k
  obtain ⟨slots, defers, esc, rc⟩ := fr
  unfold p32_1
  iterate 3 (refine dKs_eq fun _ _ h => ?_; subst h)
  refine dK0_eq ?_
  refine dV_eq fun _ _ h => ?_; subst h
  iterate 14 (refine dKs_eq fun _ _ h => ?_; subst h)
  refine dK0_eq ?_
  refine dN_eq fun h => ?_; subst h
  refine sk_eq (.seq (.run (sA (sB (sB (sB (oK (sB (cd PG 32)))))))) (.run (sB (sB (sB (sB (oK (sB (cd PG 32))))))))) (by kernel_rfl) ?_
  generalize execG π PG C = H
  kernel_rfl
noncomputable def p32_0 {α : Type} (π : Prims α) (C : CallF α) (fr : Fr) (σ : St) (k : Ex → Fr → St → Option α) : Option α :=
  (fun no => (dK 8 fr.slots no fun r8 => (dN fr.esc 0 no (π.ld σ true 6 (.ptr (some (0, 0))) fun x0 => (updS fr [(2, .val (.int .i64 (Int.ofNat 0))), (0, .val (.int .i64 (Int.negSucc 0))), (2, .val x0), (0, .val (.int .i64 (Int.ofNat 0)))] fun fr1 => (π.loop (p32_2 π C) fr1 σ (blkK 0 (seqK (p32_1 π C) k)))))))) (execG π PG C (cd PG 32) fr σ k)
theorem p32_0_eq {α : Type} (π : Prims α) (C : CallF α) : execG π PG C (cd PG 32) = p32_0 π C := by
  funext fr σ k
  obtain ⟨slots, defers, esc, rc⟩ := fr
  unfold p32_0
  iterate 8 (refine dKs_eq fun _ _ h => ?_; subst h)
  refine dK0_eq ?_
  refine dN_eq fun h => ?_; subst h
  try rw [← p32_2_eq π C]
  try rw [← p32_1_eq π C]
  refine sk_eq (.seq (.run (sA (cd PG 32))) (.scope (.seq (.run (sA (oK (sB (cd PG 32))))) (.seq (.run (sA (sB (oK (sB (cd PG 32)))))) (.seq (.seq (.run (sA (sA (sB (sB (oK (sB (cd PG 32)))))))) (.block 0 (.loopH (lK (bK (sB (sA (sB (sB (oK (sB (cd PG 32)))))))))))) (.hole (sB (sB (sB (oK (sB (cd PG 32)))))))))))) (by kernel_rfl) ?_
  generalize execG π PG C = H
  kernel_rfl
-- 95 ravelin/ram New
noncomputable def p95_2 {α : Type} (π : Prims α) (C : CallF α) (fr : Fr) (σ : St) (k : Ex → Fr → St → Option α) : Option α :=
  (fun no => (dV fr.slots no fun t0 r1 => (dK 18 r1 no fun r19 => (dN fr.esc 262144 no (π.makeSlice PG σ 209 t0 t0 fun x0 σ1 => (π.put zl273 0 1 x0 fun c2 => (dataF (.agg c2) 18 fun _ => π.alloc σ1 (.cells 0 (AVal.cells (.agg c2))) fun x3 σ4 => (updS fr [(2, .val x3), (0, .val (.int .i64 (Int.ofNat 0))), (11, .val t0), (0, .val x0), (0, .val (.agg c2)), (0, .val x3)] fun fr5 => (k .ret fr5 σ4))))))))) (execG π PG C (sB (sB (cd PG 95))) fr σ k)
theorem p95_2_eq {α : Type} (π : Prims α) (C : CallF α) : execG π PG C (sB (sB (cd PG 95))) = p95_2 π C := by
  funext fr σ k
  obtain ⟨slots, defers, esc, rc⟩ := fr
  unfold p95_2
  refine dV_eq fun _ _ h => ?_; subst h
  iterate 18 (refine dKs_eq fun _ _ h => ?_; subst h)
  refine dK0_eq ?_
  refine dN_eq fun h => ?_; subst h
  refine sk_eq (.seq (.run (sA (sB (sB (cd PG 95))))) (.run (sB (sB (sB (cd PG 95)))))) (by kernel_rfl) ?_
  generalize execG π PG C = H
  kernel_rfl
noncomputable def p95_1 {α : Type} (π : Prims α) (C : CallF α) (fr : Fr) (σ : St) (k : Ex → Fr → St → Option α) : Option α :=
  (fun no => (dK 14 fr.slots no fun r14 => (dV r14 no fun t14 r15 => (dN fr.esc 262144 no (π.cond t14 (fun _ => (updS fr [(2, .val (.ptr none)), (0, .val (.int .i64 (Int.ofNat 3)))] fun fr0 => (k .ret fr0 σ))) (fun _ => (k .normal fr σ))))))) (execG π PG C (sB (sA (sB (cd PG 95)))) fr σ k)
theorem p95_1_eq {α : Type} (π : Prims α) (C : CallF α) : execG π PG C (sB (sA (sB (cd PG 95)))) = p95_1 π C := by
  funext fr σ k
  obtain ⟨slots, defers, esc, rc⟩ := fr
  unfold p95_1
  iterate 14 (refine dKs_eq fun _ _ h => ?_; subst h)
  refine dK0_eq ?_
  refine dV_eq fun _ _ h => ?_; subst h
  refine dN_eq fun h => ?_; subst h
  refine sk_eq (.cond (cX (sB (sA (sB (cd PG 95))))) (.seq (.run (sA (cA (sB (sA (sB (cd PG 95))))))) (.run (sB (cA (sB (sA (sB (cd PG 95)))))))) (.run (cB (sB (sA (sB (cd PG 95))))))) (by kernel_rfl) ?_
  generalize execG π PG C = H
  kernel_rfl
noncomputable def p95_0 {α : Type} (π : Prims α) (C : CallF α) (fr : Fr) (σ : St) (k : Ex → Fr → St → Option α) : Option α :=
  (fun no => (dV fr.slots no fun t0 r1 => (dK 14 r1 no fun r15 => (dN fr.esc 262144 no (π.bin PG .lss 3 true t0 (.int .i64 (Int.ofNat 4096)) fun x0 => (gdF x0 (fun _ => (updS fr [(2, .val (.ptr none)), (0, .val (.int .i64 (Int.ofNat 0))), (0, .val t0), (0, .val x0), (0, .val (.bool true)), (0, .val (.tuple [])), (0, .val (.tuple [])), (0, .val (.bool true)), (0, .val (.bool true)), (0, .val (.tuple [])), (0, .val (.tuple [])), (0, .val (.tuple [])), (0, .val (.bool true))] fun fr1 => (p95_1 π C fr1 σ (seqK (p95_2 π C) k)))) (fun _ => (π.bin PG .gtr 3 true t0 (.int .i64 (Int.ofNat 65536)) fun x2 => (gdF x2 (fun _ => (updS fr [(2, .val (.ptr none)), (0, .val (.int .i64 (Int.ofNat 0))), (0, .val t0), (0, .val x0), (0, .val (.bool false)), (0, .val t0), (0, .val x2), (0, .val x2), (0, .val (.bool true)), (0, .val (.tuple [])), (0, .val (.tuple [])), (0, .val (.tuple [])), (0, .val (.bool true))] fun fr3 => (p95_1 π C fr3 σ (seqK (p95_2 π C) k)))) (fun _ => (π.bin PG .rem 3 true t0 (.int .i64 (Int.ofNat 4096)) fun x4 => (π.bin PG .neq 3 true x4 (.int .i64 (Int.ofNat 0)) fun x5 => (updS fr [(2, .val (.ptr none)), (0, .val (.int .i64 (Int.ofNat 0))), (0, .val t0), (0, .val x0), (0, .val (.bool false)), (0, .val t0), (0, .val x2), (0, .val x2), (0, .val (.bool false)), (0, .val t0), (0, .val x4), (0, .val x5), (0, .val x5)] fun fr6 => (p95_1 π C fr6 σ (seqK (p95_2 π C) k)))))) (fun _ => none)))) (fun _ => none))))))) (execG π PG C (cd PG 95) fr σ k)
theorem p95_0_eq {α : Type} (π : Prims α) (C : CallF α) : execG π PG C (cd PG 95) = p95_0 π C := by
  funext fr σ k
  obtain ⟨slots, defers, esc, rc⟩ := fr
  unfold p95_0
  refine dV_eq fun _ _ h => ?_; subst h
  iterate 14 (refine dKs_eq fun _ _ h => ?_; subst h)
  refine dK0_eq ?_
  refine dN_eq fun h => ?_; subst h
  try rw [← p95_2_eq π C]
  try rw [← p95_1_eq π C]
  refine sk_eq (.seq (.run (sA (cd PG 95))) (.seq (.seq (.run (sA (sA (sB (cd PG 95))))) (.hole (sB (sA (sB (cd PG 95)))))) (.hole (sB (sB (cd PG 95)))))) (by kernel_rfl) ?_
  generalize execG π PG C = H
  kernel_rfl
-- 30 (*ravelin/plic Plic) Pending
noncomputable def p30_0 {α : Type} (π : Prims α) (C : CallF α) (fr : Fr) (σ : St) (k : Ex → Fr → St → Option α) : Option α :=
  (fun no => (dV fr.slots no fun t0 r1 => (dV r1 no fun t1 r2 => (dK 3 r2 no fun r5 => (dV r5 no fun t5 r6 => (dV r6 no fun t6 r7 => (dV r7 no fun t7 r8 => (dV r8 no fun t8 r9 => (dV r9 no fun t9 r10 => (dV r10 no fun t10 r11 => (dV r11 no fun t11 r12 => (dV r12 no fun t12 r13 => (dV r13 no fun t13 r14 => (dV r14 no fun t14 r15 => (dV r15 no fun t15 r16 => (dV r16 no fun t16 r17 => (dV r17 no fun t17 r18 => (dV r18 no fun t18 r19 => (dV r19 no fun t19 r20 => (dV r20 no fun t20 r21 => (dV r21 no fun t21 r22 => (dV r22 no fun t22 r23 => (dV r23 no fun t23 r24 => (dV r24 no fun t24 r25 => (dV r25 no fun t25 r26 => (dV r26 no fun t26 r27 => (dV r27 no fun t27 r28 => (dV r28 no fun t28 r29 => (dV r29 no fun t29 r30 => (dV r30 no fun t30 r31 => (dV r31 no fun t31 r32 => (dV r32 no fun t32 r33 => (dN fr.esc 0 no (π.bin PG .geq 3 true t1 (.int .i64 (Int.ofNat 0)) fun x0 => (gdF x0 (fun _ => (π.bin PG .lss 3 true t1 (.int .i64 (Int.ofNat 2)) fun x1 => (gdF x1 (fun _ => (π.nc t0 fun _ => (π.add t0 32 fun x2 => ((lockCall true C) 64 [x2] σ (fun x3 σ4 => (π.nc t0 fun _ => (π.add t0 34 fun x5 => (π.idxAddr PG 151 x5 t1 fun x6 => (π.ld σ4 false 1 x6 fun x7 => (π.bin PG .and 32 false x3 x7 fun x8 => (π.nc t0 fun _ => (π.add t0 36 fun x9 => (π.idxAddr PG 151 x9 t1 fun x10 => (π.ld σ4 false 1 x10 fun x11 => ((lockCall false C) 63 [t0, x8, x11] σ4 (fun x12 σ13 => (π.bin PG .gtr 32 true x12 (.int .u32 (Int.ofNat 0)) fun x14 => (updS fr [(4, .val x14), (0, .val t1), (0, .val x0), (0, .val (.bool true)), (0, .val t1), (0, .val x1), (0, .val x1), (0, .val (.bool true)), (0, .val t0), (0, .val t0), (0, .val t0), (0, .val x2), (0, .val x3), (0, .val t0), (0, .val t1), (0, .val t0), (0, .val x5), (0, .val x6), (0, .val x7), (0, .val x8), (0, .val t0), (0, .val t1), (0, .val t0), (0, .val x9), (0, .val x10), (0, .val x11), (0, .val x12), (0, .val x14), (0, .val x14)] fun fr15 => (k .ret fr15 σ13)))) (fun x16 σ17 => none)))))))))))) (fun x18 σ19 => none))))) (fun _ => (updS fr [(4, .val (.bool false)), (0, .val t1), (0, .val x0), (0, .val (.bool true)), (0, .val t1), (0, .val x1), (0, .val x1), (0, .val (.bool false)), (0, .val (.tuple [])), (0, .val (.tuple [])), (0, .val (.tuple [])), (0, .val (.tuple [])), (0, .val (.tuple [])), (0, .val (.tuple [])), (0, .val (.tuple [])), (0, .val (.tuple [])), (0, .val (.tuple [])), (0, .val (.tuple [])), (0, .val (.tuple [])), (0, .val (.tuple [])), (0, .val (.tuple [])), (0, .val (.tuple [])), (0, .val (.tuple [])), (0, .val (.tuple [])), (0, .val (.tuple [])), (0, .val (.tuple [])), (0, .val (.tuple [])), (0, .val (.tuple [])), (0, .val (.bool false))] fun fr20 => (k .ret fr20 σ))) (fun _ => none)))) (fun _ => (updS fr [(4, .val (.bool false)), (0, .val t1), (0, .val x0), (0, .val (.bool false)), (0, .val (.tuple [])), (0, .val (.tuple [])), (0, .val (.bool false)), (0, .val (.bool false)), (0, .val (.tuple [])), (0, .val (.tuple [])), (0, .val (.tuple [])), (0, .val (.tuple [])), (0, .val (.tuple [])), (0, .val (.tuple [])), (0, .val (.tuple [])), (0, .val (.tuple [])), (0, .val (.tuple [])), (0, .val (.tuple [])), (0, .val (.tuple [])), (0, .val (.tuple [])), (0, .val (.tuple [])), (0, .val (.tuple [])), (0, .val (.tuple [])), (0, .val (.tuple [])), (0, .val (.tuple [])), (0, .val (.tuple [])), (0, .val (.tuple [])), (0, .val (.tuple [])), (0, .val (.bool false))] fun fr21 => (k .ret fr21 σ))) (fun _ => none)))))))))))))))))))))))))))))))))))) (execG π PG C (cd PG 30) fr σ k)
theorem p30_0_eq {α : Type} (π : Prims α) (C : CallF α) : execG π PG C (cd PG 30) = p30_0 π C := by
  funext fr σ k
  obtain ⟨slots, defers, esc, rc⟩ := fr
  unfold p30_0
  iterate 2 (refine dV_eq fun _ _ h => ?_; subst h)
  iterate 3 (refine dKs_eq fun _ _ h => ?_; subst h)
  refine dK0_eq ?_
  iterate 28 (refine dV_eq fun _ _ h => ?_; subst h)
  refine dN_eq fun h => ?_; subst h
  refine sk_eq (.seq (.run (sA (cd PG 30))) (.seq (.run (sA (sB (cd PG 30)))) (.run (sB (sB (cd PG 30)))))) (by kernel_rfl) ?_
  generalize execG π PG C = H
  kernel_rfl
-- 56 ravelin/bus New
noncomputable def p56_0 {α : Type} (π : Prims α) (C : CallF α) (fr : Fr) (σ : St) (k : Ex → Fr → St → Option α) : Option α :=
  (fun no => (dV fr.slots no fun t0 r1 => (dK 20 r1 no fun r21 => (dN fr.esc 1048576 no (C 95 [t0] σ (fun x0 σ1 => (π.extract x0 0 fun x2 => (π.extract x0 1 fun x3 => (π.bin PG .neq 127 true x3 (.int .i64 (Int.ofNat 0)) fun x4 => (π.cond x4 (fun _ => (updS fr [(2, .val (.ptr none)), (0, .val x3), (0, .val x2), (0, .val x3), (0, .val x0), (0, .val t0), (0, .val x0), (0, .val x2), (0, .val x3), (0, .val x3), (0, .val x4), (0, .val x3)] fun fr5 => (k .ret fr5 σ1))) (fun _ => (C 96 [] σ1 (fun x6 σ7 => (C 97 [] σ7 (fun x8 σ9 => (C 98 [] σ9 (fun x10 σ11 => (C 99 [] σ11 (fun x12 σ13 => (π.put zl88 0 1 x2 fun c14 => (π.put c14 1 1 x6 fun c15 => (π.put c15 2 1 x8 fun c16 => (π.put c16 3 1 x10 fun c17 => (π.put c17 4 1 x12 fun c18 => (dataF (.agg c18) 20 fun _ => π.alloc σ13 (.cells 0 (AVal.cells (.agg c18))) fun x19 σ20 => (updS fr [(2, .val x19), (0, .val (.int .i64 (Int.ofNat 0))), (0, .val x2), (0, .val x3), (0, .val x0), (0, .val t0), (0, .val x0), (0, .val x2), (0, .val x3), (0, .val x3), (0, .val x4), (1, .val x2), (0, .val x6), (0, .val x8), (0, .val x10), (0, .val x12), (0, .val (.agg c18)), (0, .val x19)] fun fr21 => (k .ret fr21 σ20))))))))) (fun x22 σ23 => (updS fr [(2, .val (.ptr none)), (0, .val (.int .i64 (Int.ofNat 0))), (0, .val x2), (0, .val x3), (0, .val x0), (0, .val t0), (0, .val x0), (0, .val x2), (0, .val x3), (0, .val x3), (0, .val x4), (1, .val x2), (0, .val x6), (0, .val x8), (0, .val x10)] fun fr24 => (k (.panic x22) fr24 σ23))))) (fun x25 σ26 => (updS fr [(2, .val (.ptr none)), (0, .val (.int .i64 (Int.ofNat 0))), (0, .val x2), (0, .val x3), (0, .val x0), (0, .val t0), (0, .val x0), (0, .val x2), (0, .val x3), (0, .val x3), (0, .val x4), (1, .val x2), (0, .val x6), (0, .val x8)] fun fr27 => (k (.panic x25) fr27 σ26))))) (fun x28 σ29 => (updS fr [(2, .val (.ptr none)), (0, .val (.int .i64 (Int.ofNat 0))), (0, .val x2), (0, .val x3), (0, .val x0), (0, .val t0), (0, .val x0), (0, .val x2), (0, .val x3), (0, .val x3), (0, .val x4), (1, .val x2), (0, .val x6)] fun fr30 => (k (.panic x28) fr30 σ29))))) (fun x31 σ32 => (updS fr [(2, .val (.ptr none)), (0, .val (.int .i64 (Int.ofNat 0))), (0, .val x2), (0, .val x3), (0, .val x0), (0, .val t0), (0, .val x0), (0, .val x2), (0, .val x3), (0, .val x3), (0, .val x4), (1, .val x2)] fun fr33 => (k (.panic x31) fr33 σ32)))))))))) (fun x34 σ35 => (updS fr [(2, .val (.ptr none)), (0, .val (.int .i64 (Int.ofNat 0))), (3, .val t0)] fun fr36 => (k (.panic x34) fr36 σ35)))))))) (execG π PG C (cd PG 56) fr σ k)
theorem p56_0_eq {α : Type} (π : Prims α) (C : CallF α) : execG π PG C (cd PG 56) = p56_0 π C := by
  funext fr σ k
  obtain ⟨slots, defers, esc, rc⟩ := fr
  unfold p56_0
  refine dV_eq fun _ _ h => ?_; subst h
  iterate 20 (refine dKs_eq fun _ _ h => ?_; subst h)
  refine dK0_eq ?_
  refine dN_eq fun h => ?_; subst h
  refine sk_eq (.seq (.run (sA (cd PG 56))) (.seq (.run (sA (sB (cd PG 56)))) (.seq (.seq (.run (sA (sA (sB (sB (cd PG 56)))))) (.cond (cX (sB (sA (sB (sB (cd PG 56)))))) (.seq (.run (sA (cA (sB (sA (sB (sB (cd PG 56)))))))) (.run (sB (cA (sB (sA (sB (sB (cd PG 56))))))))) (.run (cB (sB (sA (sB (sB (cd PG 56))))))))) (.seq (.run (sA (sB (sB (sB (cd PG 56)))))) (.run (sB (sB (sB (sB (cd PG 56)))))))))) (by kernel_rfl) ?_
  generalize execG π PG C = H
  kernel_rfl
-- 57 ravelin/ravelinkit Pick
noncomputable def p57_1 {α : Type} (π : Prims α) (C : CallF α) (fr : Fr) (σ : St) (k : Ex → Fr → St → Option α) : Option α :=
  (fun no => (dV fr.slots no fun t0 r1 => (dK 15 r1 no fun r16 => (dN fr.esc 0 no (updS fr [(4, .val t0), (10, .val t0)] fun fr0 => (k .ret fr0 σ)))))) (execG π PG C (sB (sB (sB (sB (cd PG 57))))) fr σ k)
theorem p57_1_eq {α : Type} (π : Prims α) (C : CallF α) : execG π PG C (sB (sB (sB (sB (cd PG 57))))) = p57_1 π C := by
  funext fr σ k
  obtain ⟨slots, defers, esc, rc⟩ := fr
  unfold p57_1
  refine dV_eq fun _ _ h => ?_; subst h
  iterate 15 (refine dKs_eq fun _ _ h => ?_; subst h)
  refine dK0_eq ?_
  refine dN_eq fun h => ?_; subst h
  refine sk_eq (.seq (.run (sA (sB (sB (sB (sB (cd PG 57))))))) (.run (sB (sB (sB (sB (sB (cd PG 57)))))))) (by kernel_rfl) ?_
  generalize execG π PG C = H
  kernel_rfl
noncomputable def p57_0 {α : Type} (π : Prims α) (C : CallF α) (fr : Fr) (σ : St) (k : Ex → Fr → St → Option α) : Option α :=
  (fun no => (dV fr.slots no fun t0 r1 => (dV r1 no fun t1 r2 => (dK 13 r2 no fun r15 => (dN fr.esc 0 no (π.bin PG .lss 3 true t1 (.int .i64 (Int.ofNat 1)) fun x0 => (π.cond x0 (fun _ => (updS fr [(4, .val (.int .i64 (Int.ofNat 0))), (0, .val t1), (0, .val x0)] fun fr1 => (k .ret fr1 σ))) (fun _ => (π.bin PG .rem 3 false t0 t1 fun x2 => (π.bin PG .lss 3 true x2 (.int .i64 (Int.ofNat 0)) fun x3 => (π.cond x3 (fun _ => (π.bin PG .add 3 false x2 t1 fun x4 => (updS fr [(0, .val x4), (3, .val (.int .i64 (Int.ofNat 0))), (0, .val t1), (0, .val x0), (0, .val t0), (0, .val t1), (0, .val x2), (0, .val x2), (0, .val x3), (0, .val x2), (0, .val t1), (0, .val x4)] fun fr5 => (p57_1 π C fr5 σ k)))) (fun _ => (updS fr [(0, .val x2), (3, .val (.int .i64 (Int.ofNat 0))), (0, .val t1), (0, .val x0), (0, .val t0), (0, .val t1), (0, .val x2), (0, .val x2), (0, .val x3)] fun fr6 => (p57_1 π C fr6 σ k)))))))))))))) (execG π PG C (cd PG 57) fr σ k)
theorem p57_0_eq {α : Type} (π : Prims α) (C : CallF α) : execG π PG C (cd PG 57) = p57_0 π C := by
  funext fr σ k
  obtain ⟨slots, defers, esc, rc⟩ := fr
  unfold p57_0
  iterate 2 (refine dV_eq fun _ _ h => ?_; subst h)
  iterate 13 (refine dKs_eq fun _ _ h => ?_; subst h)
  refine dK0_eq ?_
  refine dN_eq fun h => ?_; subst h
  try rw [← p57_1_eq π C]
  refine sk_eq (.seq (.run (sA (cd PG 57))) (.seq (.seq (.run (sA (sA (sB (cd PG 57))))) (.cond (cX (sB (sA (sB (cd PG 57))))) (.seq (.run (sA (cA (sB (sA (sB (cd PG 57))))))) (.run (sB (cA (sB (sA (sB (cd PG 57)))))))) (.run (cB (sB (sA (sB (cd PG 57)))))))) (.seq (.run (sA (sB (sB (cd PG 57))))) (.seq (.seq (.run (sA (sA (sB (sB (sB (cd PG 57))))))) (.cond (cX (sB (sA (sB (sB (sB (cd PG 57))))))) (.run (cA (sB (sA (sB (sB (sB (cd PG 57)))))))) (.run (cB (sB (sA (sB (sB (sB (cd PG 57)))))))))) (.hole (sB (sB (sB (sB (cd PG 57)))))))))) (by kernel_rfl) ?_
  generalize execG π PG C = H
  kernel_rfl
-- 170 (ravelin/bounds number) above
noncomputable def p170_0 {α : Type} (π : Prims α) (C : CallF α) (fr : Fr) (σ : St) (k : Ex → Fr → St → Option α) : Option α :=
  (fun no => (dV fr.slots no fun t0 r1 => (dV r1 no fun t1 r2 => (dK 22 r2 no fun r24 => (dN fr.esc 0 no (dataF t0 2 fun _ => (nbS fr 2 (AVal.cells t0) fun fr0 => (dataF t1 3 fun _ => (nbS fr0 3 (AVal.cells t1) fun fr1 => (π.part false (AVal.cells t0) 0 1 fun x2 => (π.part false (AVal.cells t1) 0 1 fun x3 => (π.bin PG .gtr 22 false x2 x3 fun x4 => (gdF x4 (fun _ => (updS fr1 [(4, .val (.bool true)), (0, .ref 2 0), (0, .val x2), (0, .ref 3 0), (0, .val x3), (0, .val x4), (0, .val (.bool true)), (0, .val (.tuple [])), (0, .val (.tuple [])), (0, .val (.tuple [])), (0, .val (.tuple [])), (0, .val (.tuple [])), (0, .val (.tuple [])), (0, .val (.tuple [])), (0, .val (.tuple [])), (0, .val (.tuple [])), (0, .val (.tuple [])), (0, .val (.tuple [])), (0, .val (.tuple [])), (0, .val (.bool true))] fun fr5 => (k .ret fr5 σ))) (fun _ => (π.part false (AVal.cells t0) 0 1 fun x6 => (π.part false (AVal.cells t1) 0 1 fun x7 => (π.bin PG .eql 22 false x6 x7 fun x8 => (gdF x8 (fun _ => (π.part false (AVal.cells t0) 1 1 fun x9 => (π.part false (AVal.cells t1) 1 1 fun x10 => (π.bin PG .gtr 22 false x9 x10 fun x11 => (updS fr1 [(4, .val x11), (0, .ref 2 0), (0, .val x2), (0, .ref 3 0), (0, .val x3), (0, .val x4), (0, .val (.bool false)), (0, .ref 2 0), (0, .val x6), (0, .ref 3 0), (0, .val x7), (0, .val x8), (0, .val (.bool true)), (0, .ref 2 1), (0, .val x9), (0, .ref 3 1), (0, .val x10), (0, .val x11), (0, .val x11), (0, .val x11)] fun fr12 => (k .ret fr12 σ)))))) (fun _ => (updS fr1 [(4, .val (.bool false)), (0, .ref 2 0), (0, .val x2), (0, .ref 3 0), (0, .val x3), (0, .val x4), (0, .val (.bool false)), (0, .ref 2 0), (0, .val x6), (0, .ref 3 0), (0, .val x7), (0, .val x8), (0, .val (.bool false)), (0, .val (.tuple [])), (0, .val (.tuple [])), (0, .val (.tuple [])), (0, .val (.tuple [])), (0, .val (.tuple [])), (0, .val (.bool false)), (0, .val (.bool false))] fun fr13 => (k .ret fr13 σ))) (fun _ => none)))))) (fun _ => none)))))))))))))) (execG π PG C (cd PG 170) fr σ k)
theorem p170_0_eq {α : Type} (π : Prims α) (C : CallF α) : execG π PG C (cd PG 170) = p170_0 π C := by
  funext fr σ k
  obtain ⟨slots, defers, esc, rc⟩ := fr
  unfold p170_0
  iterate 2 (refine dV_eq fun _ _ h => ?_; subst h)
  iterate 22 (refine dKs_eq fun _ _ h => ?_; subst h)
  refine dK0_eq ?_
  refine dN_eq fun h => ?_; subst h
  refine sk_eq (.seq (.run (sA (cd PG 170))) (.seq (.run (sA (sB (cd PG 170)))) (.run (sB (sB (cd PG 170)))))) (by kernel_rfl) ?_
  generalize execG π PG C = H
  kernel_rfl
-- 169 (ravelin/bounds number) plus
noncomputable def p169_0 {α : Type} (π : Prims α) (C : CallF α) (fr : Fr) (σ : St) (k : Ex → Fr → St → Option α) : Option α :=
  (fun no => (dV fr.slots no fun t0 r1 => (dV r1 no fun t1 r2 => (dK 23 r2 no fun r25 => (dN fr.esc 0 no (dataF t0 2 fun _ => (nbS fr 2 (AVal.cells t0) fun fr0 => (dataF t1 3 fun _ => (nbS fr0 3 (AVal.cells t1) fun fr1 => (nbS fr1 4 zl287 fun fr2 => (π.part false (AVal.cells t0) 1 1 fun x3 => (π.part false (AVal.cells t1) 1 1 fun x4 => (C 256 [x3, x4, (.int .u64 (Int.ofNat 0))] σ (fun x5 σ6 => (π.extract x5 0 fun x7 => (π.extract x5 1 fun x8 => (π.part false (AVal.cells t0) 0 1 fun x9 => (π.part false (AVal.cells t1) 0 1 fun x10 => (π.bin PG .add 22 false x9 x10 fun x11 => (π.bin PG .add 22 false x11 x8 fun x12 => (π.bin PG .and 22 true x12 (.int .u64 (Int.ofNat 1)) fun x13 => (π.put zl287 0 1 x13 fun c14 => (π.put c14 1 1 x7 fun c15 => (π.put zl287 0 2 (.agg c15) fun c16 => (updS fr2 [(4, .box c16), (0, .val x7), (0, .val x8), (0, .val x5), (0, .ref 2 1), (0, .val x3), (0, .ref 3 1), (0, .val x4), (0, .val x5), (0, .val x7), (0, .val x8), (0, .ref 2 0), (0, .val x9), (0, .ref 3 0), (0, .val x10), (0, .val x11), (0, .val x8), (0, .val x12), (0, .val x13), (0, .val x7), (0, .val (.agg c15))] fun fr17 => (k .ret fr17 σ6))))))))))))) (fun x18 σ19 => (updS fr2 [(8, .ref 2 1), (0, .val x3), (0, .ref 3 1), (0, .val x4)] fun fr20 => (k (.panic x18) fr20 σ19)))))))))))))))) (execG π PG C (cd PG 169) fr σ k)
theorem p169_0_eq {α : Type} (π : Prims α) (C : CallF α) : execG π PG C (cd PG 169) = p169_0 π C := by
  funext fr σ k
  obtain ⟨slots, defers, esc, rc⟩ := fr
  unfold p169_0
  iterate 2 (refine dV_eq fun _ _ h => ?_; subst h)
  iterate 23 (refine dKs_eq fun _ _ h => ?_; subst h)
  refine dK0_eq ?_
  refine dN_eq fun h => ?_; subst h
  refine sk_eq (.seq (.run (sA (cd PG 169))) (.seq (.run (sA (sB (cd PG 169)))) (.seq (.run (sA (sB (sB (cd PG 169))))) (.run (sB (sB (sB (cd PG 169)))))))) (by kernel_rfl) ?_
  generalize execG π PG C = H
  kernel_rfl
-- 181 (ravelin/xint doing) to
noncomputable def p181_0 {α : Type} (π : Prims α) (C : CallF α) (fr : Fr) (σ : St) (k : Ex → Fr → St → Option α) : Option α :=
  (fun no => (dV fr.slots no fun t0 r1 => (dV r1 no fun t1 r2 => (dK 3 r2 no fun r5 => (dV r5 no fun t5 r6 => (dV r6 no fun t6 r7 => (dV r7 no fun t7 r8 => (dV r8 no fun t8 r9 => (dV r9 no fun t9 r10 => (dV r10 no fun t10 r11 => (dV r11 no fun t11 r12 => (dV r12 no fun t12 r13 => (dV r13 no fun t13 r14 => (dV r14 no fun t14 r15 => (dV r15 no fun t15 r16 => (dV r16 no fun t16 r17 => (dV r17 no fun t17 r18 => (dV r18 no fun t18 r19 => (dN fr.esc 0 no (dataF t0 2 fun _ => (nbS fr 2 (AVal.cells t0) fun fr0 => (nbS fr0 4 zl24 fun fr1 => (π.part false (AVal.cells t0) 0 1 fun x2 => (π.nc x2 fun _ => (π.add x2 288 fun x3 => (π.ld σ true 9 x3 fun x4 => (π.part false (AVal.cells t0) 0 1 fun x5 => (π.nc x5 fun _ => (π.add x5 288 fun x6 => (π.add x6 8 fun x7 => (π.ld σ false 1 x7 fun x8 => (π.bin PG .add 22 false x8 t1 fun x9 => ((lockCall false C) 36 [x4, x9] σ (fun x10 σ11 => (π.put zl24 0 9 x10 fun c12 => (updS fr1 [(4, .box c12), (0, .ref 2 0), (0, .val x2), (0, .val x2), (0, .val x3), (0, .val x4), (0, .ref 2 0), (0, .val x5), (0, .val x5), (0, .val x6), (0, .val x7), (0, .val x8), (0, .val t1), (0, .val x9), (0, .val x10)] fun fr13 => (k .ret fr13 σ11)))) (fun x14 σ15 => none)))))))))))))))))))))))))))))))))) (execG π PG C (cd PG 181) fr σ k)
theorem p181_0_eq {α : Type} (π : Prims α) (C : CallF α) : execG π PG C (cd PG 181) = p181_0 π C := by
  funext fr σ k
  obtain ⟨slots, defers, esc, rc⟩ := fr
  unfold p181_0
  iterate 2 (refine dV_eq fun _ _ h => ?_; subst h)
  iterate 3 (refine dKs_eq fun _ _ h => ?_; subst h)
  refine dK0_eq ?_
  iterate 14 (refine dV_eq fun _ _ h => ?_; subst h)
  refine dN_eq fun h => ?_; subst h
  refine sk_eq (.seq (.run (sA (cd PG 181))) (.seq (.run (sA (sB (cd PG 181)))) (.run (sB (sB (cd PG 181)))))) (by kernel_rfl) ?_
  generalize execG π PG C = H
  kernel_rfl
-- 400 (*ravelin/ram Ram) Load
noncomputable def p400_0 {α : Type} (π : Prims α) (C : CallF α) (fr : Fr) (σ : St) (k : Ex → Fr → St → Option α) : Option α :=
  (fun no => (dV fr.slots no fun t0 r1 => (dV r1 no fun t1 r2 => (dV r2 no fun t2 r3 => (dK 17 r3 no fun r20 => (dN fr.esc 0 no (C 402 [t0, t1, t2] σ (fun x0 σ1 => (π.extract x0 0 fun x2 => (π.extract x0 1 fun x3 => (C 368 [x2] σ1 (fun x4 σ5 => (updS fr [(6, .val x4), (0, .val x3), (0, .val x2), (0, .val x3), (0, .val x0), (0, .val t0), (0, .val t1), (0, .val t2), (0, .val x0), (0, .val x2), (0, .val x3), (0, .val x2), (0, .val x4), (0, .val x3)] fun fr6 => (k .ret fr6 σ5))) (fun x7 σ8 => (updS fr [(6, .val (.int .u64 (Int.ofNat 0))), (0, .val (.bool false)), (0, .val x2), (0, .val x3), (0, .val x0), (0, .val t0), (0, .val t1), (0, .val t2), (0, .val x0), (0, .val x2), (0, .val x3), (0, .val x2)] fun fr9 => (k (.panic x7) fr9 σ8))))))) (fun x10 σ11 => (updS fr [(6, .val (.int .u64 (Int.ofNat 0))), (0, .val (.bool false)), (3, .val t0), (0, .val t1), (0, .val t2)] fun fr12 => (k (.panic x10) fr12 σ11)))))))))) (execG π PG C (cd PG 400) fr σ k)
theorem p400_0_eq {α : Type} (π : Prims α) (C : CallF α) : execG π PG C (cd PG 400) = p400_0 π C := by
  funext fr σ k
  obtain ⟨slots, defers, esc, rc⟩ := fr
  unfold p400_0
  iterate 3 (refine dV_eq fun _ _ h => ?_; subst h)
  iterate 17 (refine dKs_eq fun _ _ h => ?_; subst h)
  refine dK0_eq ?_
  refine dN_eq fun h => ?_; subst h
  refine sk_eq (.seq (.run (sA (cd PG 400))) (.seq (.run (sA (sB (cd PG 400)))) (.seq (.run (sA (sB (sB (cd PG 400))))) (.run (sB (sB (sB (cd PG 400)))))))) (by kernel_rfl) ?_
  generalize execG π PG C = H
  kernel_rfl
-- 31 ravelin/intr pending
noncomputable def p31_0 {α : Type} (π : Prims α) (C : CallF α) (fr : Fr) (σ : St) (k : Ex → Fr → St → Option α) : Option α :=
  (fun no => (dV fr.slots no fun t0 r1 => (dV r1 no fun t1 r2 => (dK 3 r2 no fun r5 => (dV r5 no fun t5 r6 => (dV r6 no fun t6 r7 => (dV r7 no fun t7 r8 => (dV r8 no fun t8 r9 => (dV r9 no fun t9 r10 => (dV r10 no fun t10 r11 => (dV r11 no fun t11 r12 => (dV r12 no fun t12 r13 => (dV r13 no fun t13 r14 => (dV r14 no fun t14 r15 => (dV r15 no fun t15 r16 => (dN fr.esc 0 no (π.nc t0 fun _ => (π.add t0 383 fun x0 => (π.ld σ false 1 x0 fun x1 => (π.bin PG .or 22 false x1 t1 fun x2 => (π.nc t0 fun _ => (π.add t0 382 fun x3 => (π.ld σ false 1 x3 fun x4 => (π.bin PG .and 22 false x2 x4 fun x5 => (updS fr [(4, .val x5), (0, .val t0), (0, .val t0), (0, .val x0), (0, .val x1), (0, .val t1), (0, .val x2), (0, .val t0), (0, .val t0), (0, .val x3), (0, .val x4), (0, .val x5)] fun fr6 => (k .ret fr6 σ)))))))))))))))))))))))))) (execG π PG C (cd PG 31) fr σ k)
theorem p31_0_eq {α : Type} (π : Prims α) (C : CallF α) : execG π PG C (cd PG 31) = p31_0 π C := by
  funext fr σ k
  obtain ⟨slots, defers, esc, rc⟩ := fr
  unfold p31_0
  iterate 2 (refine dV_eq fun _ _ h => ?_; subst h)
  iterate 3 (refine dKs_eq fun _ _ h => ?_; subst h)
  refine dK0_eq ?_
  iterate 11 (refine dV_eq fun _ _ h => ?_; subst h)
  refine dN_eq fun h => ?_; subst h
  refine sk_eq (.seq (.run (sA (cd PG 31))) (.seq (.run (sA (sB (cd PG 31)))) (.run (sB (sB (cd PG 31)))))) (by kernel_rfl) ?_
  generalize execG π PG C = H
  kernel_rfl
-- 49 ravelin/hart do$4
noncomputable def p49_0 {α : Type} (π : Prims α) (C : CallF α) (fr : Fr) (σ : St) (k : Ex → Fr → St → Option α) : Option α :=
  (fun no => (dV fr.slots no fun t0 r1 => (dV r1 no fun t1 r2 => (dV r2 no fun t2 r3 => (dK 8 r3 no fun r11 => (dN fr.esc 0 no (nbS fr 3 zl60 fun fr0 => (π.ld σ false 1 t0 fun x1 => (π.ld σ false 1 t1 fun x2 => (π.ld σ true 11 t2 fun x3 => (C 50 [x1, x2, x3] σ (fun x4 σ5 => (π.extract x4 0 fun x6 => (π.extract x4 1 fun x7 => (π.put zl60 0 3 x6 fun c8 => (updS fr0 [(3, .box c8), (0, .val x7), (0, .val x1), (0, .val x2), (0, .val x3), (0, .val x4), (0, .val x6), (0, .val x7)] fun fr9 => (k .ret fr9 σ5)))))) (fun x10 σ11 => (updS fr0 [(4, .val (.bool false)), (0, .val x1), (0, .val x2), (0, .val x3)] fun fr12 => (k (.panic x10) fr12 σ11)))))))))))))) (execG π PG C (cd PG 49) fr σ k)
theorem p49_0_eq {α : Type} (π : Prims α) (C : CallF α) : execG π PG C (cd PG 49) = p49_0 π C := by
  funext fr σ k
  obtain ⟨slots, defers, esc, rc⟩ := fr
  unfold p49_0
  iterate 3 (refine dV_eq fun _ _ h => ?_; subst h)
  iterate 8 (refine dKs_eq fun _ _ h => ?_; subst h)
  refine dK0_eq ?_
  refine dN_eq fun h => ?_; subst h
  refine sk_eq (.seq (.run (sA (cd PG 49))) (.seq (.run (sA (sB (cd PG 49)))) (.run (sB (sB (cd PG 49)))))) (by kernel_rfl) ?_
  generalize execG π PG C = H
  kernel_rfl
-- 246 ravelin/rvc small
noncomputable def p246_0 {α : Type} (π : Prims α) (C : CallF α) (fr : Fr) (σ : St) (k : Ex → Fr → St → Option α) : Option α :=
  (fun no => (dV fr.slots no fun t0 r1 => (dV r1 no fun t1 r2 => (dV r2 no fun t2 r3 => (dK 5 r3 no fun r8 => (dN fr.esc 56 no (dataF t0 3 fun _ => π.alloc σ (.cells 0 (AVal.cells t0)) fun x0 σ1 => (dataF t1 4 fun _ => π.alloc σ1 (.cells 0 (AVal.cells t1)) fun x2 σ3 => (dataF t2 5 fun _ => π.alloc σ3 (.cells 0 (AVal.cells t2)) fun x4 σ5 => (updS fr [(3, .val x0), (0, .val x2), (0, .val x4), (0, .val (.func (.func 323) [] [x4, x0, x2])), (0, .val (.func (.func 323) [] [x4, x0, x2]))] fun fr6 => (k .ret fr6 σ5))))))))))) (execG π PG C (cd PG 246) fr σ k)
theorem p246_0_eq {α : Type} (π : Prims α) (C : CallF α) : execG π PG C (cd PG 246) = p246_0 π C := by
  funext fr σ k
  obtain ⟨slots, defers, esc, rc⟩ := fr
  unfold p246_0
  iterate 3 (refine dV_eq fun _ _ h => ?_; subst h)
  iterate 5 (refine dKs_eq fun _ _ h => ?_; subst h)
  refine dK0_eq ?_
  refine dN_eq fun h => ?_; subst h
  refine sk_eq (.seq (.run (sA (cd PG 246))) (.seq (.run (sA (sB (cd PG 246)))) (.run (sB (sB (cd PG 246)))))) (by kernel_rfl) ?_
  generalize execG π PG C = H
  kernel_rfl
-- 254 ravelin/rvc stack
noncomputable def p254_0 {α : Type} (π : Prims α) (C : CallF α) (fr : Fr) (σ : St) (k : Ex → Fr → St → Option α) : Option α :=
  (fun no => (dV fr.slots no fun t0 r1 => (dV r1 no fun t1 r2 => (dV r2 no fun t2 r3 => (dK 5 r3 no fun r8 => (dN fr.esc 56 no (dataF t0 3 fun _ => π.alloc σ (.cells 0 (AVal.cells t0)) fun x0 σ1 => (dataF t1 4 fun _ => π.alloc σ1 (.cells 0 (AVal.cells t1)) fun x2 σ3 => (dataF t2 5 fun _ => π.alloc σ3 (.cells 0 (AVal.cells t2)) fun x4 σ5 => (updS fr [(3, .val x0), (0, .val x2), (0, .val x4), (0, .val (.func (.func 333) [] [x4, x0, x2])), (0, .val (.func (.func 333) [] [x4, x0, x2]))] fun fr6 => (k .ret fr6 σ5))))))))))) (execG π PG C (cd PG 254) fr σ k)
theorem p254_0_eq {α : Type} (π : Prims α) (C : CallF α) : execG π PG C (cd PG 254) = p254_0 π C := by
  funext fr σ k
  obtain ⟨slots, defers, esc, rc⟩ := fr
  unfold p254_0
  iterate 3 (refine dV_eq fun _ _ h => ?_; subst h)
  iterate 5 (refine dKs_eq fun _ _ h => ?_; subst h)
  refine dK0_eq ?_
  refine dN_eq fun h => ?_; subst h
  refine sk_eq (.seq (.run (sA (cd PG 254))) (.seq (.run (sA (sB (cd PG 254)))) (.run (sB (sB (cd PG 254)))))) (by kernel_rfl) ?_
  generalize execG π PG C = H
  kernel_rfl
-- 319 (ravelin/rvc half) rs2p
noncomputable def p319_0 {α : Type} (π : Prims α) (C : CallF α) (fr : Fr) (σ : St) (k : Ex → Fr → St → Option α) : Option α :=
  (fun no => (dV fr.slots no fun t0 r1 => (dK 5 r1 no fun r6 => (dN fr.esc 0 no (C 325 [t0, (.int .i64 (Int.ofNat 4)), (.int .i64 (Int.ofNat 2))] σ (fun x0 σ1 => (π.bin PG .add 3 true (.int .i64 (Int.ofNat 8)) x0 fun x2 => (updS fr [(2, .val x2), (0, .val t0), (0, .val x0), (0, .val x2)] fun fr3 => (k .ret fr3 σ1)))) (fun x4 σ5 => (updS fr [(2, .val (.int .i64 (Int.ofNat 0))), (0, .val t0)] fun fr6 => (k (.panic x4) fr6 σ5)))))))) (execG π PG C (cd PG 319) fr σ k)
theorem p319_0_eq {α : Type} (π : Prims α) (C : CallF α) : execG π PG C (cd PG 319) = p319_0 π C := by
  funext fr σ k
  obtain ⟨slots, defers, esc, rc⟩ := fr
  unfold p319_0
  refine dV_eq fun _ _ h => ?_; subst h
  iterate 5 (refine dKs_eq fun _ _ h => ?_; subst h)
  refine dK0_eq ?_
  refine dN_eq fun h => ?_; subst h
  refine sk_eq (.seq (.run (sA (cd PG 319))) (.seq (.run (sA (sB (cd PG 319)))) (.run (sB (sB (cd PG 319)))))) (by kernel_rfl) ?_
  generalize execG π PG C = H
  kernel_rfl
-- 232 (ravelin/base word) rd
noncomputable def p232_0 {α : Type} (π : Prims α) (C : CallF α) (fr : Fr) (σ : St) (k : Ex → Fr → St → Option α) : Option α :=
  (fun no => (dV fr.slots no fun t0 r1 => (dK 4 r1 no fun r5 => (dN fr.esc 0 no (C 234 [t0, (.int .i64 (Int.ofNat 11)), (.int .i64 (Int.ofNat 7))] σ (fun x0 σ1 => (updS fr [(2, .val x0), (0, .val t0), (0, .val x0)] fun fr2 => (k .ret fr2 σ1))) (fun x3 σ4 => (updS fr [(2, .val (.int .i64 (Int.ofNat 0))), (0, .val t0)] fun fr5 => (k (.panic x3) fr5 σ4)))))))) (execG π PG C (cd PG 232) fr σ k)
theorem p232_0_eq {α : Type} (π : Prims α) (C : CallF α) : execG π PG C (cd PG 232) = p232_0 π C := by
  funext fr σ k
  obtain ⟨slots, defers, esc, rc⟩ := fr
  unfold p232_0
  refine dV_eq fun _ _ h => ?_; subst h
  iterate 4 (refine dKs_eq fun _ _ h => ?_; subst h)
  refine dK0_eq ?_
  refine dN_eq fun h => ?_; subst h
  refine sk_eq (.seq (.run (sA (cd PG 232))) (.seq (.run (sA (sB (cd PG 232)))) (.run (sB (sB (cd PG 232)))))) (by kernel_rfl) ?_
  generalize execG π PG C = H
  kernel_rfl
-- 94 (*ravelin/ram Ram) Len
noncomputable def p94_0 {α : Type} (π : Prims α) (C : CallF α) (fr : Fr) (σ : St) (k : Ex → Fr → St → Option α) : Option α :=
  (fun no => (dV fr.slots no fun t0 r1 => (dK 7 r1 no fun r8 => (dN fr.esc 0 no (π.nc t0 fun _ => (π.add t0 0 fun x0 => (π.ld σ false 1 x0 fun x1 => (π.len PG 209 x1 fun x2 => (updS fr [(2, .val x2), (0, .val t0), (0, .val t0), (0, .val x0), (0, .val x1), (0, .val x2)] fun fr3 => (k .ret fr3 σ)))))))))) (execG π PG C (cd PG 94) fr σ k)
theorem p94_0_eq {α : Type} (π : Prims α) (C : CallF α) : execG π PG C (cd PG 94) = p94_0 π C := by
  funext fr σ k
  obtain ⟨slots, defers, esc, rc⟩ := fr
  unfold p94_0
  refine dV_eq fun _ _ h => ?_; subst h
  iterate 7 (refine dKs_eq fun _ _ h => ?_; subst h)
  refine dK0_eq ?_
  refine dN_eq fun h => ?_; subst h
  refine sk_eq (.seq (.run (sA (cd PG 94))) (.seq (.run (sA (sB (cd PG 94)))) (.run (sB (sB (cd PG 94)))))) (by kernel_rfl) ?_
  generalize execG π PG C = H
  kernel_rfl
-- 97 ravelin/plic New
noncomputable def p97_0 {α : Type} (π : Prims α) (C : CallF α) (fr : Fr) (σ : St) (k : Ex → Fr → St → Option α) : Option α :=
  (fun no => (dK 3 fr.slots no fun r3 => (dN fr.esc 4 no (dataF (.agg zl153) 2 fun _ => π.alloc σ (.cells 0 (AVal.cells (.agg zl153))) fun x0 σ1 => (updS fr [(0, .val x0), (0, .val (.agg zl153)), (0, .val x0)] fun fr2 => (k .ret fr2 σ1)))))) (execG π PG C (cd PG 97) fr σ k)
theorem p97_0_eq {α : Type} (π : Prims α) (C : CallF α) : execG π PG C (cd PG 97) = p97_0 π C := by
  funext fr σ k
  obtain ⟨slots, defers, esc, rc⟩ := fr
  unfold p97_0
  iterate 3 (refine dKs_eq fun _ _ h => ?_; subst h)
  refine dK0_eq ?_
  refine dN_eq fun h => ?_; subst h
  refine sk_eq (.seq (.run (sA (cd PG 97))) (.seq (.run (sA (sB (cd PG 97)))) (.run (sB (sB (cd PG 97)))))) (by kernel_rfl) ?_
  generalize execG π PG C = H
  kernel_rfl
end
end Go.Sh
