/-
  Functions of the program in a shallow form (printed by a program of mine), each shown to be what the machine runs. No condition.
-/
import Derived.Test.YtidpincekbgjmaaGreatDoorD
set_option linter.unusedVariables false
set_option linter.unusedSimpArgs false
open Go Go.Abs Go.Proofs
namespace Go.Sh
noncomputable section
set_option maxRecDepth 100000
set_option maxHeartbeats 0
-- 3 ravelin/ravelinlaw29 HartKnown
noncomputable def p3_4 {α : Type} (π : Prims α) (C : CallF α) (fr : Fr) (σ : St) (k : Ex → Fr → St → Option α) : Option α :=
  (fun no => (dK 1 fr.slots no fun r1 => (dV r1 no fun t1 r2 => (dV r2 no fun t2 r3 => (dK 91 r3 no fun r94 => (dN fr.esc 2 no (π.nc t2 fun _ => (π.add t2 0 fun x0 => (π.ld σ false 1 x0 fun x1 => (C 7 [x1, (.int .u64 (Int.ofNat 33570816)), (.int .i64 (Int.ofNat 8)), (.int .u64 (Int.ofNat 0))] σ (fun x2 σ3 => (C 6 [t2, t1, (.bool false)] σ3 (fun x4 σ5 => (π.extract x4 0 fun x6 => (π.extract x4 1 fun x7 => (gdF x6 (fun _ => (π.add t1 395 fun x8 => (π.ld σ5 false 1 x8 fun x9 => (π.un .not x9 fun x10 => (gdF x10 (fun _ => (π.add t1 386 fun x11 => (π.ld σ5 false 1 x11 fun x12 => (π.bin PG .eql 22 true x12 (.int .u64 (Int.ofNat 9223372036854775815)) fun x13 => (gdF x13 (fun _ => (π.add t1 288 fun x14 => (π.add x14 8 fun x15 => (π.ld σ5 false 1 x15 fun x16 => (π.bin PG .eql 22 true x16 (.int .u64 (Int.ofNat 2147483904)) fun x17 => (gdF x17 (fun _ => (π.add t1 369 fun x18 => (π.add x18 8 fun x19 => (π.ld σ5 false 1 x19 fun x20 => (π.bin PG .eql 22 true x20 (.int .u64 (Int.ofNat 2147493892)) fun x21 => (gdF x21 (fun _ => (C 8 [] σ5 (fun x22 σ23 => (updS fr [(0, .val x22), (6, .val x6), (0, .val x7), (49, .val t2), (0, .val t2), (0, .val x0), (0, .val x1), (0, .val x2), (0, .val x4), (0, .val t2), (0, .val x4), (0, .val x6), (0, .val x7), (0, .val x6), (0, .val (.bool true)), (0, .val x8), (0, .val x9), (0, .val x10), (0, .val x10), (0, .val (.bool true)), (0, .val x11), (0, .val x12), (0, .val x13), (0, .val x13), (0, .val (.bool true)), (0, .val x14), (0, .val x15), (0, .val x16), (0, .val x17), (0, .val x17), (0, .val (.bool true)), (0, .val x18), (0, .val x19), (0, .val x20), (0, .val x21), (0, .val x21), (0, .val (.bool true)), (0, .val x22), (0, .val x22)] fun fr24 => (k .ret fr24 σ23))) (fun x25 σ26 => (updS fr [(7, .val x6), (0, .val x7), (49, .val t2), (0, .val t2), (0, .val x0), (0, .val x1), (0, .val x2), (0, .val x4), (0, .val t2), (0, .val x4), (0, .val x6), (0, .val x7), (0, .val x6), (0, .val (.bool true)), (0, .val x8), (0, .val x9), (0, .val x10), (0, .val x10), (0, .val (.bool true)), (0, .val x11), (0, .val x12), (0, .val x13), (0, .val x13), (0, .val (.bool true)), (0, .val x14), (0, .val x15), (0, .val x16), (0, .val x17), (0, .val x17), (0, .val (.bool true)), (0, .val x18), (0, .val x19), (0, .val x20), (0, .val x21), (0, .val x21), (0, .val (.bool true))] fun fr27 => (k (.panic x25) fr27 σ26))))) (fun _ => (updS fr [(0, .val (.bool false)), (6, .val x6), (0, .val x7), (49, .val t2), (0, .val t2), (0, .val x0), (0, .val x1), (0, .val x2), (0, .val x4), (0, .val t2), (0, .val x4), (0, .val x6), (0, .val x7), (0, .val x6), (0, .val (.bool true)), (0, .val x8), (0, .val x9), (0, .val x10), (0, .val x10), (0, .val (.bool true)), (0, .val x11), (0, .val x12), (0, .val x13), (0, .val x13), (0, .val (.bool true)), (0, .val x14), (0, .val x15), (0, .val x16), (0, .val x17), (0, .val x17), (0, .val (.bool true)), (0, .val x18), (0, .val x19), (0, .val x20), (0, .val x21), (0, .val x21), (0, .val (.bool false)), (0, .val (.tuple [])), (0, .val (.bool false))] fun fr28 => (k .ret fr28 σ5))) (fun _ => none))))))) (fun _ => (updS fr [(0, .val (.bool false)), (6, .val x6), (0, .val x7), (49, .val t2), (0, .val t2), (0, .val x0), (0, .val x1), (0, .val x2), (0, .val x4), (0, .val t2), (0, .val x4), (0, .val x6), (0, .val x7), (0, .val x6), (0, .val (.bool true)), (0, .val x8), (0, .val x9), (0, .val x10), (0, .val x10), (0, .val (.bool true)), (0, .val x11), (0, .val x12), (0, .val x13), (0, .val x13), (0, .val (.bool true)), (0, .val x14), (0, .val x15), (0, .val x16), (0, .val x17), (0, .val x17), (0, .val (.bool false)), (0, .val (.tuple [])), (0, .val (.tuple [])), (0, .val (.tuple [])), (0, .val (.tuple [])), (0, .val (.bool false)), (0, .val (.bool false)), (0, .val (.tuple [])), (0, .val (.bool false))] fun fr29 => (k .ret fr29 σ5))) (fun _ => none))))))) (fun _ => (updS fr [(0, .val (.bool false)), (6, .val x6), (0, .val x7), (49, .val t2), (0, .val t2), (0, .val x0), (0, .val x1), (0, .val x2), (0, .val x4), (0, .val t2), (0, .val x4), (0, .val x6), (0, .val x7), (0, .val x6), (0, .val (.bool true)), (0, .val x8), (0, .val x9), (0, .val x10), (0, .val x10), (0, .val (.bool true)), (0, .val x11), (0, .val x12), (0, .val x13), (0, .val x13), (0, .val (.bool false)), (0, .val (.tuple [])), (0, .val (.tuple [])), (0, .val (.tuple [])), (0, .val (.tuple [])), (0, .val (.bool false)), (0, .val (.bool false)), (0, .val (.tuple [])), (0, .val (.tuple [])), (0, .val (.tuple [])), (0, .val (.tuple [])), (0, .val (.bool false)), (0, .val (.bool false)), (0, .val (.tuple [])), (0, .val (.bool false))] fun fr30 => (k .ret fr30 σ5))) (fun _ => none)))))) (fun _ => (updS fr [(0, .val (.bool false)), (6, .val x6), (0, .val x7), (49, .val t2), (0, .val t2), (0, .val x0), (0, .val x1), (0, .val x2), (0, .val x4), (0, .val t2), (0, .val x4), (0, .val x6), (0, .val x7), (0, .val x6), (0, .val (.bool true)), (0, .val x8), (0, .val x9), (0, .val x10), (0, .val x10), (0, .val (.bool false)), (0, .val (.tuple [])), (0, .val (.tuple [])), (0, .val (.tuple [])), (0, .val (.bool false)), (0, .val (.bool false)), (0, .val (.tuple [])), (0, .val (.tuple [])), (0, .val (.tuple [])), (0, .val (.tuple [])), (0, .val (.bool false)), (0, .val (.bool false)), (0, .val (.tuple [])), (0, .val (.tuple [])), (0, .val (.tuple [])), (0, .val (.tuple [])), (0, .val (.bool false)), (0, .val (.bool false)), (0, .val (.tuple [])), (0, .val (.bool false))] fun fr31 => (k .ret fr31 σ5))) (fun _ => none)))))) (fun _ => (updS fr [(0, .val (.bool false)), (6, .val x6), (0, .val x7), (49, .val t2), (0, .val t2), (0, .val x0), (0, .val x1), (0, .val x2), (0, .val x4), (0, .val t2), (0, .val x4), (0, .val x6), (0, .val x7), (0, .val x6), (0, .val (.bool false)), (0, .val (.tuple [])), (0, .val (.tuple [])), (0, .val (.tuple [])), (0, .val (.bool false)), (0, .val (.bool false)), (0, .val (.tuple [])), (0, .val (.tuple [])), (0, .val (.tuple [])), (0, .val (.bool false)), (0, .val (.bool false)), (0, .val (.tuple [])), (0, .val (.tuple [])), (0, .val (.tuple [])), (0, .val (.tuple [])), (0, .val (.bool false)), (0, .val (.bool false)), (0, .val (.tuple [])), (0, .val (.tuple [])), (0, .val (.tuple [])), (0, .val (.tuple [])), (0, .val (.bool false)), (0, .val (.bool false)), (0, .val (.tuple [])), (0, .val (.bool false))] fun fr32 => (k .ret fr32 σ5))) (fun _ => none))))) (fun x33 σ34 => (updS fr [(58, .val t2), (0, .val t2), (0, .val x0), (0, .val x1), (0, .val x2), (1, .val t2)] fun fr35 => (k (.panic x33) fr35 σ34))))) (fun x36 σ37 => (updS fr [(58, .val t2), (0, .val t2), (0, .val x0), (0, .val x1)] fun fr38 => (k (.panic x36) fr38 σ37))))))))))))) (execG π PG C (sB (sB (sB (sB (sB (sB (sB (sB (sB (sB (cd PG 3))))))))))) fr σ k)
theorem p3_4_eq {α : Type} (π : Prims α) (C : CallF α) : execG π PG C (sB (sB (sB (sB (sB (sB (sB (sB (sB (sB (cd PG 3))))))))))) = p3_4 π C := by
  funext fr σ k
  obtain ⟨slots, defers, esc, rc⟩ := fr
  unfold p3_4
  iterate 1 (refine dKs_eq fun _ _ h => ?_; subst h)
  refine dK0_eq ?_
  iterate 2 (refine dV_eq fun _ _ h => ?_; subst h)
  iterate 91 (refine dKs_eq fun _ _ h => ?_; subst h)
  refine dK0_eq ?_
  refine dN_eq fun h => ?_; subst h
  refine sk_eq (.seq (.run (sA (sB (sB (sB (sB (sB (sB (sB (sB (sB (sB (cd PG 3))))))))))))) (.seq (.run (sA (sB (sB (sB (sB (sB (sB (sB (sB (sB (sB (sB (cd PG 3)))))))))))))) (.seq (.run (sA (sB (sB (sB (sB (sB (sB (sB (sB (sB (sB (sB (sB (cd PG 3))))))))))))))) (.run (sB (sB (sB (sB (sB (sB (sB (sB (sB (sB (sB (sB (sB (cd PG 3)))))))))))))))))) (by kernel_rfl) ?_
  generalize execG π PG C = H
  kernel_rfl
noncomputable def p3_3 {α : Type} (π : Prims α) (C : CallF α) (fr : Fr) (σ : St) (k : Ex → Fr → St → Option α) : Option α :=
  (fun no => (dK 57 fr.slots no fun r57 => (dV r57 no fun t57 r58 => (dN fr.esc 2 no (π.cond t57 (fun _ => (updS fr [(0, .val (.bool false))] fun fr0 => (k .ret fr0 σ))) (fun _ => (k .normal fr σ))))))) (execG π PG C (sB (sA (sB (sB (sB (sB (sB (sB (sB (sB (sB (cd PG 3)))))))))))) fr σ k)
theorem p3_3_eq {α : Type} (π : Prims α) (C : CallF α) : execG π PG C (sB (sA (sB (sB (sB (sB (sB (sB (sB (sB (sB (cd PG 3)))))))))))) = p3_3 π C := by
  funext fr σ k
  obtain ⟨slots, defers, esc, rc⟩ := fr
  unfold p3_3
  iterate 57 (refine dKs_eq fun _ _ h => ?_; subst h)
  refine dK0_eq ?_
  refine dV_eq fun _ _ h => ?_; subst h
  refine dN_eq fun h => ?_; subst h
  refine sk_eq (.cond (cX (sB (sA (sB (sB (sB (sB (sB (sB (sB (sB (sB (cd PG 3))))))))))))) (.seq (.run (sA (cA (sB (sA (sB (sB (sB (sB (sB (sB (sB (sB (sB (cd PG 3))))))))))))))) (.run (sB (cA (sB (sA (sB (sB (sB (sB (sB (sB (sB (sB (sB (cd PG 3)))))))))))))))) (.run (cB (sB (sA (sB (sB (sB (sB (sB (sB (sB (sB (sB (cd PG 3))))))))))))))) (by kernel_rfl) ?_
  generalize execG π PG C = H
  kernel_rfl
noncomputable def p3_2 {α : Type} (π : Prims α) (C : CallF α) (fr : Fr) (σ : St) (k : Ex → Fr → St → Option α) : Option α :=
  (fun no => (dK 1 fr.slots no fun r1 => (dV r1 no fun t1 r2 => (dV r2 no fun t2 r3 => (dK 55 r3 no fun r58 => (dN fr.esc 2 no (C 6 [t2, t1, (.bool false)] σ (fun x0 σ1 => (π.extract x0 0 fun x2 => (π.extract x0 1 fun x3 => (gdF x2 (fun _ => (updS fr [(5, .val x2), (0, .val x3), (25, .val x0), (0, .val t2), (0, .val x0), (0, .val x2), (0, .val x3), (0, .val x2), (0, .val (.bool true)), (0, .val (.tuple [])), (0, .val (.tuple [])), (0, .val (.tuple [])), (0, .val (.bool true)), (0, .val (.bool true)), (0, .val (.tuple [])), (0, .val (.tuple [])), (0, .val (.tuple [])), (0, .val (.bool true)), (0, .val (.bool true)), (0, .val (.tuple [])), (0, .val (.tuple [])), (0, .val (.tuple [])), (0, .val (.bool true)), (0, .val (.bool true)), (0, .val (.tuple [])), (0, .val (.tuple [])), (0, .val (.tuple [])), (0, .val (.bool true))] fun fr4 => (p3_3 π C fr4 σ1 (seqK (p3_4 π C) k)))) (fun _ => (π.add t1 395 fun x5 => (π.ld σ1 false 1 x5 fun x6 => (π.un .not x6 fun x7 => (gdF x7 (fun _ => (updS fr [(5, .val x2), (0, .val x3), (25, .val x0), (0, .val t2), (0, .val x0), (0, .val x2), (0, .val x3), (0, .val x2), (0, .val (.bool false)), (0, .val x5), (0, .val x6), (0, .val x7), (0, .val x7), (0, .val (.bool true)), (0, .val (.tuple [])), (0, .val (.tuple [])), (0, .val (.tuple [])), (0, .val (.bool true)), (0, .val (.bool true)), (0, .val (.tuple [])), (0, .val (.tuple [])), (0, .val (.tuple [])), (0, .val (.bool true)), (0, .val (.bool true)), (0, .val (.tuple [])), (0, .val (.tuple [])), (0, .val (.tuple [])), (0, .val (.bool true))] fun fr8 => (p3_3 π C fr8 σ1 (seqK (p3_4 π C) k)))) (fun _ => (π.len PG 40 x3 fun x9 => (π.bin PG .neq 3 true x9 (.int .i64 (Int.ofNat 0)) fun x10 => (gdF x10 (fun _ => (updS fr [(5, .val x2), (0, .val x3), (25, .val x0), (0, .val t2), (0, .val x0), (0, .val x2), (0, .val x3), (0, .val x2), (0, .val (.bool false)), (0, .val x5), (0, .val x6), (0, .val x7), (0, .val x7), (0, .val (.bool false)), (0, .val x3), (0, .val x9), (0, .val x10), (0, .val x10), (0, .val (.bool true)), (0, .val (.tuple [])), (0, .val (.tuple [])), (0, .val (.tuple [])), (0, .val (.bool true)), (0, .val (.bool true)), (0, .val (.tuple [])), (0, .val (.tuple [])), (0, .val (.tuple [])), (0, .val (.bool true))] fun fr11 => (p3_3 π C fr11 σ1 (seqK (p3_4 π C) k)))) (fun _ => (π.add t1 393 fun x12 => (π.ld σ1 false 1 x12 fun x13 => (π.bin PG .neq 22 true x13 (.int .u64 (Int.ofNat 2)) fun x14 => (gdF x14 (fun _ => (updS fr [(5, .val x2), (0, .val x3), (25, .val x0), (0, .val t2), (0, .val x0), (0, .val x2), (0, .val x3), (0, .val x2), (0, .val (.bool false)), (0, .val x5), (0, .val x6), (0, .val x7), (0, .val x7), (0, .val (.bool false)), (0, .val x3), (0, .val x9), (0, .val x10), (0, .val x10), (0, .val (.bool false)), (0, .val x12), (0, .val x13), (0, .val x14), (0, .val x14), (0, .val (.bool true)), (0, .val (.tuple [])), (0, .val (.tuple [])), (0, .val (.tuple [])), (0, .val (.bool true))] fun fr15 => (p3_3 π C fr15 σ1 (seqK (p3_4 π C) k)))) (fun _ => (π.add t1 394 fun x16 => (π.ld σ1 false 1 x16 fun x17 => (π.bin PG .neq 22 true x17 (.int .u64 (Int.ofNat 1)) fun x18 => (updS fr [(5, .val x2), (0, .val x3), (25, .val x0), (0, .val t2), (0, .val x0), (0, .val x2), (0, .val x3), (0, .val x2), (0, .val (.bool false)), (0, .val x5), (0, .val x6), (0, .val x7), (0, .val x7), (0, .val (.bool false)), (0, .val x3), (0, .val x9), (0, .val x10), (0, .val x10), (0, .val (.bool false)), (0, .val x12), (0, .val x13), (0, .val x14), (0, .val x14), (0, .val (.bool false)), (0, .val x16), (0, .val x17), (0, .val x18), (0, .val x18)] fun fr19 => (p3_3 π C fr19 σ1 (seqK (p3_4 π C) k))))))) (fun _ => none)))))) (fun _ => none))))) (fun _ => none)))))) (fun _ => none))))) (fun x20 σ21 => (updS fr [(33, .val t2)] fun fr22 => (k (.panic x20) fr22 σ21)))))))))) (execG π PG C (sB (sB (sB (sB (sB (sB (sB (sB (cd PG 3))))))))) fr σ k)
theorem p3_2_eq {α : Type} (π : Prims α) (C : CallF α) : execG π PG C (sB (sB (sB (sB (sB (sB (sB (sB (cd PG 3))))))))) = p3_2 π C := by
  funext fr σ k
  obtain ⟨slots, defers, esc, rc⟩ := fr
  unfold p3_2
  iterate 1 (refine dKs_eq fun _ _ h => ?_; subst h)
  refine dK0_eq ?_
  iterate 2 (refine dV_eq fun _ _ h => ?_; subst h)
  iterate 55 (refine dKs_eq fun _ _ h => ?_; subst h)
  refine dK0_eq ?_
  refine dN_eq fun h => ?_; subst h
  try rw [← p3_4_eq π C]
  try rw [← p3_3_eq π C]
  refine sk_eq (.seq (.run (sA (sB (sB (sB (sB (sB (sB (sB (sB (cd PG 3))))))))))) (.seq (.seq (.run (sA (sA (sB (sB (sB (sB (sB (sB (sB (sB (sB (cd PG 3))))))))))))) (.hole (sB (sA (sB (sB (sB (sB (sB (sB (sB (sB (sB (cd PG 3)))))))))))))) (.hole (sB (sB (sB (sB (sB (sB (sB (sB (sB (sB (cd PG 3)))))))))))))) (by kernel_rfl) ?_
  generalize execG π PG C = H
  kernel_rfl
noncomputable def p3_1 {α : Type} (π : Prims α) (C : CallF α) (fr : Fr) (σ : St) (k : Ex → Fr → St → Option α) : Option α :=
  (fun no => (dK 31 fr.slots no fun r31 => (dV r31 no fun t31 r32 => (dN fr.esc 2 no (π.cond t31 (fun _ => (updS fr [(0, .val (.bool false))] fun fr0 => (k .ret fr0 σ))) (fun _ => (k .normal fr σ))))))) (execG π PG C (sB (sA (sB (sB (sB (sB (sB (sB (sB (cd PG 3)))))))))) fr σ k)
theorem p3_1_eq {α : Type} (π : Prims α) (C : CallF α) : execG π PG C (sB (sA (sB (sB (sB (sB (sB (sB (sB (cd PG 3)))))))))) = p3_1 π C := by
  funext fr σ k
  obtain ⟨slots, defers, esc, rc⟩ := fr
  unfold p3_1
  iterate 31 (refine dKs_eq fun _ _ h => ?_; subst h)
  refine dK0_eq ?_
  refine dV_eq fun _ _ h => ?_; subst h
  refine dN_eq fun h => ?_; subst h
  refine sk_eq (.cond (cX (sB (sA (sB (sB (sB (sB (sB (sB (sB (cd PG 3))))))))))) (.seq (.run (sA (cA (sB (sA (sB (sB (sB (sB (sB (sB (sB (cd PG 3))))))))))))) (.run (sB (cA (sB (sA (sB (sB (sB (sB (sB (sB (sB (cd PG 3)))))))))))))) (.run (cB (sB (sA (sB (sB (sB (sB (sB (sB (sB (cd PG 3))))))))))))) (by kernel_rfl) ?_
  generalize execG π PG C = H
  kernel_rfl
noncomputable def p3_0 {α : Type} (π : Prims α) (C : CallF α) (fr : Fr) (σ : St) (k : Ex → Fr → St → Option α) : Option α :=
  (fun no => (dK 32 fr.slots no fun r32 => (dN fr.esc 2 no (C 4 [] σ (fun x0 σ1 => (π.alloc σ1 (.cells 0 zl27) fun x2 σ3 => (π.st σ3 396 x2 x0 fun σ4 => (π.add x2 382 fun x5 => (π.st σ4 1 x5 (.int .u64 (Int.ofNat 128)) fun σ6 => (π.add x2 379 fun x7 => (π.st σ6 1 x7 (.int .u64 (Int.ofNat 8)) fun σ8 => (π.ld σ8 true 396 x2 fun x9 => (π.put [(.int .u32 (Int.ofNat 0)), (.int .u32 (Int.ofNat 0))] 0 1 (.int .u32 (Int.ofNat 273678451)) fun c10 => (π.put c10 1 1 (.int .u32 (Int.ofNat 10487059)) fun c11 => (π.newSl σ8 1 c11 2 fun x13 σ12 => (π.put zl39 5 396 x9 fun c14 => (π.put c14 401 1 x13 fun c15 => (π.put c15 402 1 (.bool true) fun c16 => (C 5 [(.agg c16)] σ12 (fun x17 σ18 => (π.extract x17 0 fun x19 => (π.extract x17 1 fun x20 => (π.st σ18 396 x2 x20 fun σ21 => (π.bin PG .eql 29 true x19 (.ptr none) fun x22 => (π.cond x22 (fun _ => (updS fr [(0, .val (.bool false)), (0, .val x2), (0, .val x19), (6, .val x0), (0, .val x5), (0, .val x7), (0, .val x17), (0, .val x9), (0, .val x13), (0, .val (.agg c16)), (0, .val x17), (0, .val x19), (0, .val x20), (0, .val x19), (0, .val x22)] fun fr23 => (k .ret fr23 σ21))) (fun _ => (C 6 [x19, x2, (.bool false)] σ21 (fun x24 σ25 => (π.extract x24 0 fun x26 => (π.extract x24 1 fun x27 => (gdF x26 (fun _ => (updS fr [(0, .val (.bool false)), (0, .val x2), (0, .val x19), (0, .val x26), (0, .val x27), (4, .val x0), (0, .val x5), (0, .val x7), (0, .val x17), (0, .val x9), (0, .val x13), (0, .val (.agg c16)), (0, .val x17), (0, .val x19), (0, .val x20), (0, .val x19), (0, .val x22), (0, .val x24), (0, .val x19), (0, .val x24), (0, .val x26), (0, .val x27), (0, .val x26), (0, .val (.bool true)), (0, .val (.tuple [])), (0, .val (.tuple [])), (0, .val (.tuple [])), (0, .val (.bool true))] fun fr28 => (p3_1 π C fr28 σ25 (seqK (p3_2 π C) k)))) (fun _ => (π.add x2 395 fun x29 => (π.ld σ25 false 1 x29 fun x30 => (π.un .not x30 fun x31 => (updS fr [(0, .val (.bool false)), (0, .val x2), (0, .val x19), (0, .val x26), (0, .val x27), (4, .val x0), (0, .val x5), (0, .val x7), (0, .val x17), (0, .val x9), (0, .val x13), (0, .val (.agg c16)), (0, .val x17), (0, .val x19), (0, .val x20), (0, .val x19), (0, .val x22), (0, .val x24), (0, .val x19), (0, .val x24), (0, .val x26), (0, .val x27), (0, .val x26), (0, .val (.bool false)), (0, .val x29), (0, .val x30), (0, .val x31), (0, .val x31)] fun fr32 => (p3_1 π C fr32 σ25 (seqK (p3_2 π C) k))))))) (fun _ => none))))) (fun x33 σ34 => (updS fr [(0, .val (.bool false)), (0, .val x2), (0, .val x19), (6, .val x0), (0, .val x5), (0, .val x7), (0, .val x17), (0, .val x9), (0, .val x13), (0, .val (.agg c16)), (0, .val x17), (0, .val x19), (0, .val x20), (0, .val x19), (0, .val x22), (1, .val x19)] fun fr35 => (k (.panic x33) fr35 σ34))))))))))) (fun x36 σ37 => (updS fr [(0, .val (.bool false)), (0, .val x2), (7, .val x0), (0, .val x5), (0, .val x7), (1, .val x9), (0, .val x13), (0, .val (.agg c16))] fun fr38 => (k (.panic x36) fr38 σ37)))))))))))))))))) (fun x39 σ40 => (updS fr [(0, .val (.bool false))] fun fr41 => (k (.panic x39) fr41 σ40))))))) (execG π PG C (cd PG 3) fr σ k)
theorem p3_0_eq {α : Type} (π : Prims α) (C : CallF α) : execG π PG C (cd PG 3) = p3_0 π C := by
  funext fr σ k
  obtain ⟨slots, defers, esc, rc⟩ := fr
  unfold p3_0
  iterate 32 (refine dKs_eq fun _ _ h => ?_; subst h)
  refine dK0_eq ?_
  refine dN_eq fun h => ?_; subst h
  try rw [← p3_2_eq π C]
  try rw [← p3_1_eq π C]
  refine sk_eq (.seq (.run (sA (cd PG 3))) (.seq (.run (sA (sB (cd PG 3)))) (.seq (.run (sA (sB (sB (cd PG 3))))) (.seq (.run (sA (sB (sB (sB (cd PG 3)))))) (.seq (.run (sA (sB (sB (sB (sB (cd PG 3))))))) (.seq (.seq (.run (sA (sA (sB (sB (sB (sB (sB (cd PG 3))))))))) (.cond (cX (sB (sA (sB (sB (sB (sB (sB (cd PG 3))))))))) (.seq (.run (sA (cA (sB (sA (sB (sB (sB (sB (sB (cd PG 3))))))))))) (.run (sB (cA (sB (sA (sB (sB (sB (sB (sB (cd PG 3)))))))))))) (.run (cB (sB (sA (sB (sB (sB (sB (sB (cd PG 3)))))))))))) (.seq (.run (sA (sB (sB (sB (sB (sB (sB (cd PG 3))))))))) (.seq (.seq (.run (sA (sA (sB (sB (sB (sB (sB (sB (sB (cd PG 3))))))))))) (.hole (sB (sA (sB (sB (sB (sB (sB (sB (sB (cd PG 3)))))))))))) (.hole (sB (sB (sB (sB (sB (sB (sB (sB (cd PG 3)))))))))))))))))) (by kernel_rfl) ?_
  generalize execG π PG C = H
  kernel_rfl
-- 160 (ravelin/base word) system
noncomputable def p160_1 {α : Type} (π : Prims α) (C : CallF α) (fr : Fr) (σ : St) (k : Ex → Fr → St → Option α) : Option α :=
  (fun no => (dV fr.slots no fun t0 r1 => (dK 1 r1 no fun r2 => (dB r2 no fun t2 r3 => (dV r3 no fun t3 r4 => (dK 47 r4 no fun r51 => (dV r51 no fun t51 r52 => (dV r52 no fun t52 r53 => (dV r53 no fun t53 r54 => (dV r54 no fun t54 r55 => (dN fr.esc 0 no (C 234 [t0, (.int .i64 (Int.ofNat 31)), (.int .i64 (Int.ofNat 20))] σ (fun x0 σ1 => (C 235 [t0, (.int .i64 (Int.ofNat 19)), x0] σ1 (fun x2 σ3 => (updS fr [(39, .val t0), (0, .val t0), (0, .val x0), (0, .val x2)] fun fr4 => (nbS fr4 4 zl66 fun fr5 => (π.put zl66 0 11 x2 fun c6 => (C 237 [t0] σ3 (fun x7 σ8 => (π.bin PG .and 3 true x7 (.int .i64 (Int.ofNat 3)) fun x9 => (C 237 [t0] σ8 (fun x10 σ11 => (π.bin PG .gtr 3 true x10 (.int .i64 (Int.ofNat 4)) fun x12 => (π.put c6 1 1 x9 fun c13 => (π.put c13 8 1 x12 fun c14 => (π.part true c14 0 11 fun x15 => (π.part false c14 1 1 fun x16 => (π.bin PG .neq 3 true x16 (.int .i64 (Int.ofNat 0)) fun x17 => (π.put t2 0 11 x15 fun c18 => (updS fr5 [(2, .box c18), (0, .val x17), (0, .box c14), (38, .val t0), (0, .val x7), (0, .val x9), (0, .val t0), (0, .val x10), (0, .val x12), (0, .ref 4 1), (0, .ref 4 8), (0, .val x15), (0, .ref 4 1), (0, .val x16), (0, .val x17)] fun fr19 => (k .ret fr19 σ11)))))))))) (fun x20 σ21 => (updS fr5 [(4, .box c6), (38, .val t0), (0, .val x7), (0, .val x9), (0, .val t0)] fun fr22 => (k (.panic x20) fr22 σ21)))))) (fun x23 σ24 => (updS fr5 [(4, .box c6), (38, .val t0)] fun fr25 => (k (.panic x23) fr25 σ24)))))))) (fun x26 σ27 => (updS fr [(39, .val t0), (0, .val t0), (0, .val x0)] fun fr28 => (k (.panic x26) fr28 σ27))))) (fun x29 σ30 => (updS fr [(39, .val t0), (0, .val t0)] fun fr31 => (k (.panic x29) fr31 σ30))))))))))))))) (execG π PG C (sB (sB (sB (cd PG 160)))) fr σ k)
theorem p160_1_eq {α : Type} (π : Prims α) (C : CallF α) : execG π PG C (sB (sB (sB (cd PG 160)))) = p160_1 π C := by
  funext fr σ k
  obtain ⟨slots, defers, esc, rc⟩ := fr
  unfold p160_1
  refine dV_eq fun _ _ h => ?_; subst h
  iterate 1 (refine dKs_eq fun _ _ h => ?_; subst h)
  refine dK0_eq ?_
  refine dB_eq fun _ _ h => ?_; subst h
  refine dV_eq fun _ _ h => ?_; subst h
  iterate 47 (refine dKs_eq fun _ _ h => ?_; subst h)
  refine dK0_eq ?_
  iterate 4 (refine dV_eq fun _ _ h => ?_; subst h)
  refine dN_eq fun h => ?_; subst h
  refine sk_eq (.seq (.run (sA (sB (sB (sB (cd PG 160)))))) (.seq (.run (sA (sB (sB (sB (sB (cd PG 160))))))) (.seq (.run (sA (sB (sB (sB (sB (sB (cd PG 160)))))))) (.run (sB (sB (sB (sB (sB (sB (cd PG 160))))))))))) (by kernel_rfl) ?_
  generalize execG π PG C = H
  kernel_rfl
noncomputable def p160_0 {α : Type} (π : Prims α) (C : CallF α) (fr : Fr) (σ : St) (k : Ex → Fr → St → Option α) : Option α :=
  (fun no => (dV fr.slots no fun t0 r1 => (dK 50 r1 no fun r51 => (dV r51 no fun t51 r52 => (dV r52 no fun t52 r53 => (dV r53 no fun t53 r54 => (dV r54 no fun t54 r55 => (dN fr.esc 0 no (nbS fr 2 zl66 fun fr0 => (π.bin PG .eql 197 true t0 (.int .u32 (Int.ofNat 115)) fun x1 => (π.cond x1 (fun _ => (C 231 [t0, (.int .i64 (Int.ofNat 13))] σ (fun x2 σ3 => (π.put zl66 0 11 x2 fun c4 => (updS fr0 [(2, .box c4), (0, .val (.bool true)), (1, .val t0), (0, .val x1), (0, .val x1), (0, .val t0), (0, .val x2)] fun fr5 => (k .ret fr5 σ3)))) (fun x6 σ7 => (updS fr0 [(3, .val (.bool false)), (1, .val t0), (0, .val x1), (0, .val x1), (0, .val t0)] fun fr8 => (k (.panic x6) fr8 σ7))))) (fun _ => (π.bin PG .eql 197 true t0 (.int .u32 (Int.ofNat 1048691)) fun x9 => (π.cond x9 (fun _ => (C 231 [t0, (.int .i64 (Int.ofNat 14))] σ (fun x10 σ11 => (π.put zl66 0 11 x10 fun c12 => (updS fr0 [(2, .box c12), (0, .val (.bool true)), (1, .val t0), (0, .val x1), (0, .val x1), (2, .val x9), (0, .val x9), (0, .val t0), (0, .val x10)] fun fr13 => (k .ret fr13 σ11)))) (fun x14 σ15 => (updS fr0 [(3, .val (.bool false)), (1, .val t0), (0, .val x1), (0, .val x1), (2, .val x9), (0, .val x9), (0, .val t0)] fun fr16 => (k (.panic x14) fr16 σ15))))) (fun _ => (π.bin PG .eql 197 true t0 (.int .u32 (Int.ofNat 807403635)) fun x17 => (π.cond x17 (fun _ => (C 231 [t0, (.int .i64 (Int.ofNat 15))] σ (fun x18 σ19 => (π.put zl66 0 11 x18 fun c20 => (updS fr0 [(2, .box c20), (0, .val (.bool true)), (1, .val t0), (0, .val x1), (0, .val x1), (2, .val x9), (0, .val x9), (2, .val x17), (0, .val x17), (0, .val t0), (0, .val x18)] fun fr21 => (k .ret fr21 σ19)))) (fun x22 σ23 => (updS fr0 [(3, .val (.bool false)), (1, .val t0), (0, .val x1), (0, .val x1), (2, .val x9), (0, .val x9), (2, .val x17), (0, .val x17), (0, .val t0)] fun fr24 => (k (.panic x22) fr24 σ23))))) (fun _ => (π.bin PG .eql 197 true t0 (.int .u32 (Int.ofNat 270532723)) fun x25 => (π.cond x25 (fun _ => (C 231 [t0, (.int .i64 (Int.ofNat 16))] σ (fun x26 σ27 => (π.put zl66 0 11 x26 fun c28 => (updS fr0 [(2, .box c28), (0, .val (.bool true)), (1, .val t0), (0, .val x1), (0, .val x1), (2, .val x9), (0, .val x9), (2, .val x17), (0, .val x17), (2, .val x25), (0, .val x25), (0, .val t0), (0, .val x26)] fun fr29 => (k .ret fr29 σ27)))) (fun x30 σ31 => (updS fr0 [(3, .val (.bool false)), (1, .val t0), (0, .val x1), (0, .val x1), (2, .val x9), (0, .val x9), (2, .val x17), (0, .val x17), (2, .val x25), (0, .val x25), (0, .val t0)] fun fr32 => (k (.panic x30) fr32 σ31))))) (fun _ => (π.bin PG .eql 197 true t0 (.int .u32 (Int.ofNat 273678451)) fun x33 => (π.cond x33 (fun _ => (C 231 [t0, (.int .i64 (Int.ofNat 17))] σ (fun x34 σ35 => (π.put zl66 0 11 x34 fun c36 => (updS fr0 [(2, .box c36), (0, .val (.bool true)), (1, .val t0), (0, .val x1), (0, .val x1), (2, .val x9), (0, .val x9), (2, .val x17), (0, .val x17), (2, .val x25), (0, .val x25), (2, .val x33), (0, .val x33), (0, .val t0), (0, .val x34)] fun fr37 => (k .ret fr37 σ35)))) (fun x38 σ39 => (updS fr0 [(3, .val (.bool false)), (1, .val t0), (0, .val x1), (0, .val x1), (2, .val x9), (0, .val x9), (2, .val x17), (0, .val x17), (2, .val x25), (0, .val x25), (2, .val x33), (0, .val x33), (0, .val t0)] fun fr40 => (k (.panic x38) fr40 σ39))))) (fun _ => (C 237 [t0] σ (fun x41 σ42 => (π.bin PG .eql 3 true x41 (.int .i64 (Int.ofNat 0)) fun x43 => (π.cond x43 (fun _ => (C 238 [t0, (.int .i64 (Int.ofNat 18)), (.int .i64 (Int.ofNat 0))] σ42 (fun x44 σ45 => (C 241 [t0] σ45 (fun x46 σ47 => (π.bin PG .eql 3 true x46 (.int .i64 (Int.ofNat 9)) fun x48 => (gdF x48 (fun _ => (C 232 [t0] σ47 (fun x49 σ50 => (π.bin PG .eql 3 true x49 (.int .i64 (Int.ofNat 0)) fun x51 => (π.put zl66 0 11 x44 fun c52 => (updS fr0 [(2, .box c52), (0, .val x51), (1, .val t0), (0, .val x1), (0, .val x1), (2, .val x9), (0, .val x9), (2, .val x17), (0, .val x17), (2, .val x25), (0, .val x25), (2, .val x33), (0, .val x33), (2, .val t0), (0, .val x41), (0, .val x43), (0, .val t0), (0, .val x44), (0, .val t0), (0, .val x46), (0, .val x48), (0, .val (.bool true)), (0, .val t0), (0, .val x49), (0, .val x51), (0, .val x51)] fun fr53 => (k .ret fr53 σ50))))) (fun x54 σ55 => (updS fr0 [(3, .val (.bool false)), (1, .val t0), (0, .val x1), (0, .val x1), (2, .val x9), (0, .val x9), (2, .val x17), (0, .val x17), (2, .val x25), (0, .val x25), (2, .val x33), (0, .val x33), (2, .val t0), (0, .val x41), (0, .val x43), (0, .val t0), (0, .val x44), (0, .val t0), (0, .val x46), (0, .val x48), (0, .val (.bool true)), (0, .val t0)] fun fr56 => (k (.panic x54) fr56 σ55))))) (fun _ => (π.put zl66 0 11 x44 fun c57 => (updS fr0 [(2, .box c57), (0, .val (.bool false)), (1, .val t0), (0, .val x1), (0, .val x1), (2, .val x9), (0, .val x9), (2, .val x17), (0, .val x17), (2, .val x25), (0, .val x25), (2, .val x33), (0, .val x33), (2, .val t0), (0, .val x41), (0, .val x43), (0, .val t0), (0, .val x44), (0, .val t0), (0, .val x46), (0, .val x48), (0, .val (.bool false)), (0, .val (.tuple [])), (0, .val (.tuple [])), (0, .val (.tuple [])), (0, .val (.bool false))] fun fr58 => (k .ret fr58 σ47)))) (fun _ => none)))) (fun x59 σ60 => (updS fr0 [(3, .val (.bool false)), (1, .val t0), (0, .val x1), (0, .val x1), (2, .val x9), (0, .val x9), (2, .val x17), (0, .val x17), (2, .val x25), (0, .val x25), (2, .val x33), (0, .val x33), (2, .val t0), (0, .val x41), (0, .val x43), (0, .val t0), (0, .val x44), (0, .val t0)] fun fr61 => (k (.panic x59) fr61 σ60))))) (fun x62 σ63 => (updS fr0 [(3, .val (.bool false)), (1, .val t0), (0, .val x1), (0, .val x1), (2, .val x9), (0, .val x9), (2, .val x17), (0, .val x17), (2, .val x25), (0, .val x25), (2, .val x33), (0, .val x33), (2, .val t0), (0, .val x41), (0, .val x43), (0, .val t0)] fun fr64 => (k (.panic x62) fr64 σ63))))) (fun _ => (C 234 [t0, (.int .i64 (Int.ofNat 31)), (.int .i64 (Int.ofNat 20))] σ42 (fun x65 σ66 => (C 235 [t0, (.int .i64 (Int.ofNat 19)), x65] σ66 (fun x67 σ68 => (updS fr0 [(3, .val (.bool false)), (1, .val t0), (0, .val x1), (0, .val x1), (2, .val x9), (0, .val x9), (2, .val x17), (0, .val x17), (2, .val x25), (0, .val x25), (2, .val x33), (0, .val x33), (2, .val t0), (0, .val x41), (0, .val x43), (10, .val t0), (0, .val t0), (0, .val x65), (0, .val x67)] fun fr69 => (nbS fr69 4 zl66 fun fr70 => (π.put zl66 0 11 x67 fun c71 => (C 237 [t0] σ68 (fun x72 σ73 => (π.bin PG .and 3 true x72 (.int .i64 (Int.ofNat 3)) fun x74 => (C 237 [t0] σ73 (fun x75 σ76 => (π.bin PG .gtr 3 true x75 (.int .i64 (Int.ofNat 4)) fun x77 => (π.put c71 1 1 x74 fun c78 => (π.put c78 8 1 x77 fun c79 => (π.part true c79 0 11 fun x80 => (π.part false c79 1 1 fun x81 => (π.bin PG .neq 3 true x81 (.int .i64 (Int.ofNat 0)) fun x82 => (π.put zl66 0 11 x80 fun c83 => (updS fr70 [(2, .box c83), (0, .val x82), (0, .box c79), (38, .val t0), (0, .val x72), (0, .val x74), (0, .val t0), (0, .val x75), (0, .val x77), (0, .ref 4 1), (0, .ref 4 8), (0, .val x80), (0, .ref 4 1), (0, .val x81), (0, .val x82)] fun fr84 => (k .ret fr84 σ76)))))))))) (fun x85 σ86 => (updS fr70 [(4, .box c71), (38, .val t0), (0, .val x72), (0, .val x74), (0, .val t0)] fun fr87 => (k (.panic x85) fr87 σ86)))))) (fun x88 σ89 => (updS fr70 [(4, .box c71), (38, .val t0)] fun fr90 => (k (.panic x88) fr90 σ89)))))))) (fun x91 σ92 => (updS fr0 [(3, .val (.bool false)), (1, .val t0), (0, .val x1), (0, .val x1), (2, .val x9), (0, .val x9), (2, .val x17), (0, .val x17), (2, .val x25), (0, .val x25), (2, .val x33), (0, .val x33), (2, .val t0), (0, .val x41), (0, .val x43), (10, .val t0), (0, .val t0), (0, .val x65)] fun fr93 => (k (.panic x91) fr93 σ92))))) (fun x94 σ95 => (updS fr0 [(3, .val (.bool false)), (1, .val t0), (0, .val x1), (0, .val x1), (2, .val x9), (0, .val x9), (2, .val x17), (0, .val x17), (2, .val x25), (0, .val x25), (2, .val x33), (0, .val x33), (2, .val t0), (0, .val x41), (0, .val x43), (10, .val t0), (0, .val t0)] fun fr96 => (k (.panic x94) fr96 σ95)))))))) (fun x97 σ98 => (updS fr0 [(3, .val (.bool false)), (1, .val t0), (0, .val x1), (0, .val x1), (2, .val x9), (0, .val x9), (2, .val x17), (0, .val x17), (2, .val x25), (0, .val x25), (2, .val x33), (0, .val x33), (2, .val t0)] fun fr99 => (k (.panic x97) fr99 σ98)))))))))))))))))))))))))))) (execG π PG C (cd PG 160) fr σ k)
theorem p160_0_eq {α : Type} (π : Prims α) (C : CallF α) : execG π PG C (cd PG 160) = p160_0 π C := by
  funext fr σ k
  obtain ⟨slots, defers, esc, rc⟩ := fr
  unfold p160_0
  refine dV_eq fun _ _ h => ?_; subst h
  iterate 50 (refine dKs_eq fun _ _ h => ?_; subst h)
  refine dK0_eq ?_
  iterate 4 (refine dV_eq fun _ _ h => ?_; subst h)
  refine dN_eq fun h => ?_; subst h
  try rw [← p160_1_eq π C]
  refine sk_eq (.seq (.run (sA (cd PG 160))) (.seq (.seq (.run (sA (sA (sB (cd PG 160))))) (.block 0 (.seq (.run (sA (bK (sB (sA (sB (cd PG 160))))))) (.cond (cX (sB (bK (sB (sA (sB (cd PG 160))))))) (.seq (.run (sA (cA (sB (bK (sB (sA (sB (cd PG 160))))))))) (.run (sB (cA (sB (bK (sB (sA (sB (cd PG 160)))))))))) (.seq (.run (sA (cB (sB (bK (sB (sA (sB (cd PG 160))))))))) (.cond (cX (sB (cB (sB (bK (sB (sA (sB (cd PG 160))))))))) (.seq (.run (sA (cA (sB (cB (sB (bK (sB (sA (sB (cd PG 160))))))))))) (.run (sB (cA (sB (cB (sB (bK (sB (sA (sB (cd PG 160)))))))))))) (.seq (.run (sA (cB (sB (cB (sB (bK (sB (sA (sB (cd PG 160))))))))))) (.cond (cX (sB (cB (sB (cB (sB (bK (sB (sA (sB (cd PG 160))))))))))) (.seq (.run (sA (cA (sB (cB (sB (cB (sB (bK (sB (sA (sB (cd PG 160))))))))))))) (.run (sB (cA (sB (cB (sB (cB (sB (bK (sB (sA (sB (cd PG 160)))))))))))))) (.seq (.run (sA (cB (sB (cB (sB (cB (sB (bK (sB (sA (sB (cd PG 160))))))))))))) (.cond (cX (sB (cB (sB (cB (sB (cB (sB (bK (sB (sA (sB (cd PG 160))))))))))))) (.seq (.run (sA (cA (sB (cB (sB (cB (sB (cB (sB (bK (sB (sA (sB (cd PG 160))))))))))))))) (.run (sB (cA (sB (cB (sB (cB (sB (cB (sB (bK (sB (sA (sB (cd PG 160)))))))))))))))) (.seq (.run (sA (cB (sB (cB (sB (cB (sB (cB (sB (bK (sB (sA (sB (cd PG 160))))))))))))))) (.cond (cX (sB (cB (sB (cB (sB (cB (sB (cB (sB (bK (sB (sA (sB (cd PG 160))))))))))))))) (.seq (.run (sA (cA (sB (cB (sB (cB (sB (cB (sB (cB (sB (bK (sB (sA (sB (cd PG 160))))))))))))))))) (.run (sB (cA (sB (cB (sB (cB (sB (cB (sB (cB (sB (bK (sB (sA (sB (cd PG 160)))))))))))))))))) (.run (cB (sB (cB (sB (cB (sB (cB (sB (cB (sB (bK (sB (sA (sB (cd PG 160)))))))))))))))))))))))))))) (.seq (.seq (.run (sA (sA (sB (sB (cd PG 160)))))) (.cond (cX (sB (sA (sB (sB (cd PG 160)))))) (.seq (.run (sA (cA (sB (sA (sB (sB (cd PG 160)))))))) (.run (sB (cA (sB (sA (sB (sB (cd PG 160))))))))) (.run (cB (sB (sA (sB (sB (cd PG 160))))))))) (.hole (sB (sB (sB (cd PG 160)))))))) (by kernel_rfl) ?_
  generalize execG π PG C = H
  kernel_rfl
-- 15 ravelin/intr Choose
noncomputable def p15_4 {α : Type} (π : Prims α) (C : CallF α) (fr : Fr) (σ : St) (k : Ex → Fr → St → Option α) : Option α :=
  (fun no => (dK 6 fr.slots no fun r6 => (dN fr.esc 0 no (updS fr [(4, .val (.int .i64 (Int.ofNat 0))), (0, .val (.bool false))] fun fr0 => (k .ret fr0 σ))))) (execG π PG C (sB (sB (sB (sB (cd PG 15))))) fr σ k)
theorem p15_4_eq {α : Type} (π : Prims α) (C : CallF α) : execG π PG C (sB (sB (sB (sB (cd PG 15))))) = p15_4 π C := by
  funext fr σ k
  obtain ⟨slots, defers, esc, rc⟩ := fr
  unfold p15_4
  iterate 6 (refine dKs_eq fun _ _ h => ?_; subst h)
  refine dK0_eq ?_
  refine dN_eq fun h => ?_; subst h
  refine sk_eq (.seq (.run (sA (sB (sB (sB (sB (cd PG 15))))))) (.run (sB (sB (sB (sB (sB (cd PG 15)))))))) (by kernel_rfl) ?_
  generalize execG π PG C = H
  kernel_rfl
noncomputable def p15_3 {α : Type} (π : Prims α) (C : CallF α) (fr : Fr) (σ : St) (k : Ex → Fr → St → Option α) : Option α :=
  (fun no => (dK 8 fr.slots no fun r8 => (dV r8 no fun t8 r9 => (dK 58 r9 no fun r67 => (dV r67 no fun t67 r68 => (dK 1 r68 no fun r69 => (dN fr.esc 0 no (π.cond t67 (fun _ => (updS fr [(4, .val t8), (0, .val (.bool true)), (62, .val t8)] fun fr0 => (k .ret fr0 σ))) (fun _ => (k .normal fr σ)))))))))) (execG π PG C (sB (sB (sA (sB (sB (sB (cd PG 15))))))) fr σ k)
theorem p15_3_eq {α : Type} (π : Prims α) (C : CallF α) : execG π PG C (sB (sB (sA (sB (sB (sB (cd PG 15))))))) = p15_3 π C := by
  funext fr σ k
  obtain ⟨slots, defers, esc, rc⟩ := fr
  unfold p15_3
  iterate 8 (refine dKs_eq fun _ _ h => ?_; subst h)
  refine dK0_eq ?_
  refine dV_eq fun _ _ h => ?_; subst h
  iterate 58 (refine dKs_eq fun _ _ h => ?_; subst h)
  refine dK0_eq ?_
  refine dV_eq fun _ _ h => ?_; subst h
  iterate 1 (refine dKs_eq fun _ _ h => ?_; subst h)
  refine dK0_eq ?_
  refine dN_eq fun h => ?_; subst h
  refine sk_eq (.cond (cX (sB (sB (sA (sB (sB (sB (cd PG 15)))))))) (.seq (.run (sA (cA (sB (sB (sA (sB (sB (sB (cd PG 15)))))))))) (.run (sB (cA (sB (sB (sA (sB (sB (sB (cd PG 15))))))))))) (.run (cB (sB (sB (sA (sB (sB (sB (cd PG 15)))))))))) (by kernel_rfl) ?_
  generalize execG π PG C = H
  kernel_rfl
noncomputable def p15_2 {α : Type} (π : Prims α) (C : CallF α) (fr : Fr) (σ : St) (k : Ex → Fr → St → Option α) : Option α :=
  (fun no => (dV fr.slots no fun t0 r1 => (dK 5 r1 no fun r6 => (dV r6 no fun t6 r7 => (dK 61 r7 no fun r68 => (dN fr.esc 0 no (π.nc t0 fun _ => (π.add t0 381 fun x0 => (π.ld σ false 1 x0 fun x1 => (π.bin PG .and 22 false t6 x1 fun x2 => (C 32 [x2] σ (fun x3 σ4 => (π.bin PG .geq 3 true x3 (.int .i64 (Int.ofNat 0)) fun x5 => (gdF x5 (fun _ => (π.nc t0 fun _ => (π.add t0 378 fun x6 => (π.ld σ4 false 1 x6 fun x7 => (π.bin PG .lss 3 true x7 (.int .i64 (Int.ofNat 1)) fun x8 => (gdF x8 (fun _ => (updS fr [(8, .val x3), (28, .val t6), (0, .val t0), (0, .val t0), (0, .val x0), (0, .val x1), (0, .val x2), (0, .val x3), (0, .val x3), (0, .val x5), (0, .val (.bool true)), (0, .val t0), (0, .val t0), (0, .val x6), (0, .val x7), (0, .val x8), (0, .val (.bool true)), (0, .val (.tuple [])), (0, .val (.tuple [])), (0, .val (.tuple [])), (0, .val (.tuple [])), (0, .val (.tuple [])), (0, .val (.tuple [])), (0, .val (.tuple [])), (0, .val (.tuple [])), (0, .val (.tuple [])), (0, .val (.tuple [])), (0, .val (.tuple [])), (0, .val (.tuple [])), (0, .val (.tuple [])), (0, .val (.bool true)), (0, .val (.bool true))] fun fr9 => (p15_3 π C fr9 σ4 (seqK (p15_4 π C) k)))) (fun _ => (π.nc t0 fun _ => (π.add t0 378 fun x10 => (π.ld σ4 false 1 x10 fun x11 => (π.bin PG .eql 3 true x11 (.int .i64 (Int.ofNat 1)) fun x12 => (gdF x12 (fun _ => (π.nc t0 fun _ => (π.add t0 379 fun x13 => (π.ld σ4 false 1 x13 fun x14 => (π.bin PG .and 22 true x14 (.int .u64 (Int.ofNat 2)) fun x15 => (π.bin PG .neq 22 true x15 (.int .u64 (Int.ofNat 0)) fun x16 => (updS fr [(8, .val x3), (28, .val t6), (0, .val t0), (0, .val t0), (0, .val x0), (0, .val x1), (0, .val x2), (0, .val x3), (0, .val x3), (0, .val x5), (0, .val (.bool true)), (0, .val t0), (0, .val t0), (0, .val x6), (0, .val x7), (0, .val x8), (0, .val (.bool false)), (0, .val t0), (0, .val t0), (0, .val x10), (0, .val x11), (0, .val x12), (0, .val (.bool true)), (0, .val t0), (0, .val t0), (0, .val x13), (0, .val x14), (0, .val x15), (0, .val x16), (0, .val x16), (0, .val x16), (0, .val x16)] fun fr17 => (p15_3 π C fr17 σ4 (seqK (p15_4 π C) k))))))))) (fun _ => (updS fr [(8, .val x3), (28, .val t6), (0, .val t0), (0, .val t0), (0, .val x0), (0, .val x1), (0, .val x2), (0, .val x3), (0, .val x3), (0, .val x5), (0, .val (.bool true)), (0, .val t0), (0, .val t0), (0, .val x6), (0, .val x7), (0, .val x8), (0, .val (.bool false)), (0, .val t0), (0, .val t0), (0, .val x10), (0, .val x11), (0, .val x12), (0, .val (.bool false)), (0, .val (.tuple [])), (0, .val (.tuple [])), (0, .val (.tuple [])), (0, .val (.tuple [])), (0, .val (.tuple [])), (0, .val (.tuple [])), (0, .val (.bool false)), (0, .val (.bool false)), (0, .val (.bool false))] fun fr18 => (p15_3 π C fr18 σ4 (seqK (p15_4 π C) k)))) (fun _ => none))))))) (fun _ => none))))))) (fun _ => (updS fr [(8, .val x3), (28, .val t6), (0, .val t0), (0, .val t0), (0, .val x0), (0, .val x1), (0, .val x2), (0, .val x3), (0, .val x3), (0, .val x5), (0, .val (.bool false)), (0, .val (.tuple [])), (0, .val (.tuple [])), (0, .val (.tuple [])), (0, .val (.tuple [])), (0, .val (.tuple [])), (0, .val (.tuple [])), (0, .val (.tuple [])), (0, .val (.tuple [])), (0, .val (.tuple [])), (0, .val (.tuple [])), (0, .val (.tuple [])), (0, .val (.tuple [])), (0, .val (.tuple [])), (0, .val (.tuple [])), (0, .val (.tuple [])), (0, .val (.tuple [])), (0, .val (.tuple [])), (0, .val (.tuple [])), (0, .val (.tuple [])), (0, .val (.tuple [])), (0, .val (.bool false))] fun fr19 => (p15_3 π C fr19 σ4 (seqK (p15_4 π C) k)))) (fun _ => none)))) (fun x20 σ21 => (updS fr [(37, .val t6), (0, .val t0), (0, .val t0), (0, .val x0), (0, .val x1), (0, .val x2)] fun fr22 => (k (.panic x20) fr22 σ21)))))))))))))) (execG π PG C (sB (sB (sB (cd PG 15)))) fr σ k)
theorem p15_2_eq {α : Type} (π : Prims α) (C : CallF α) : execG π PG C (sB (sB (sB (cd PG 15)))) = p15_2 π C := by
  funext fr σ k
  obtain ⟨slots, defers, esc, rc⟩ := fr
  unfold p15_2
  refine dV_eq fun _ _ h => ?_; subst h
  iterate 5 (refine dKs_eq fun _ _ h => ?_; subst h)
  refine dK0_eq ?_
  refine dV_eq fun _ _ h => ?_; subst h
  iterate 61 (refine dKs_eq fun _ _ h => ?_; subst h)
  refine dK0_eq ?_
  refine dN_eq fun h => ?_; subst h
  try rw [← p15_4_eq π C]
  try rw [← p15_3_eq π C]
  refine sk_eq (.seq (.seq (.run (sA (sA (sB (sB (sB (cd PG 15))))))) (.seq (.run (sA (sB (sA (sB (sB (sB (cd PG 15)))))))) (.hole (sB (sB (sA (sB (sB (sB (cd PG 15)))))))))) (.hole (sB (sB (sB (sB (cd PG 15))))))) (by kernel_rfl) ?_
  generalize execG π PG C = H
  kernel_rfl
noncomputable def p15_1 {α : Type} (π : Prims α) (C : CallF α) (fr : Fr) (σ : St) (k : Ex → Fr → St → Option α) : Option α :=
  (fun no => (dK 7 fr.slots no fun r7 => (dV r7 no fun t7 r8 => (dK 27 r8 no fun r35 => (dV r35 no fun t35 r36 => (dK 1 r36 no fun r37 => (dN fr.esc 0 no (π.cond t35 (fun _ => (updS fr [(4, .val t7), (0, .val (.bool true)), (30, .val t7)] fun fr0 => (k .ret fr0 σ))) (fun _ => (k .normal fr σ)))))))))) (execG π PG C (sB (sB (sA (sB (sB (cd PG 15)))))) fr σ k)
theorem p15_1_eq {α : Type} (π : Prims α) (C : CallF α) : execG π PG C (sB (sB (sA (sB (sB (cd PG 15)))))) = p15_1 π C := by
  funext fr σ k
  obtain ⟨slots, defers, esc, rc⟩ := fr
  unfold p15_1
  iterate 7 (refine dKs_eq fun _ _ h => ?_; subst h)
  refine dK0_eq ?_
  refine dV_eq fun _ _ h => ?_; subst h
  iterate 27 (refine dKs_eq fun _ _ h => ?_; subst h)
  refine dK0_eq ?_
  refine dV_eq fun _ _ h => ?_; subst h
  iterate 1 (refine dKs_eq fun _ _ h => ?_; subst h)
  refine dK0_eq ?_
  refine dN_eq fun h => ?_; subst h
  refine sk_eq (.cond (cX (sB (sB (sA (sB (sB (cd PG 15))))))) (.seq (.run (sA (cA (sB (sB (sA (sB (sB (cd PG 15))))))))) (.run (sB (cA (sB (sB (sA (sB (sB (cd PG 15)))))))))) (.run (cB (sB (sB (sA (sB (sB (cd PG 15))))))))) (by kernel_rfl) ?_
  generalize execG π PG C = H
  kernel_rfl
noncomputable def p15_0 {α : Type} (π : Prims α) (C : CallF α) (fr : Fr) (σ : St) (k : Ex → Fr → St → Option α) : Option α :=
  (fun no => (dV fr.slots no fun t0 r1 => (dV r1 no fun t1 r2 => (dK 34 r2 no fun r36 => (dN fr.esc 0 no (C 31 [t0, t1] σ (fun x0 σ1 => (π.nc t0 fun _ => (π.add t0 381 fun x2 => (π.ld σ1 false 1 x2 fun x3 => (π.bin PG .andNot 22 false x0 x3 fun x4 => (C 32 [x4] σ1 (fun x5 σ6 => (π.bin PG .geq 3 true x5 (.int .i64 (Int.ofNat 0)) fun x7 => (gdF x7 (fun _ => (π.nc t0 fun _ => (π.add t0 378 fun x8 => (π.ld σ6 false 1 x8 fun x9 => (π.bin PG .lss 3 true x9 (.int .i64 (Int.ofNat 3)) fun x10 => (gdF x10 (fun _ => (updS fr [(4, .val (.int .i64 (Int.ofNat 0))), (0, .val (.bool false)), (0, .val x0), (0, .val x5), (1, .val t0), (0, .val t1), (0, .val x0), (0, .val x0), (0, .val t0), (0, .val t0), (0, .val x2), (0, .val x3), (0, .val x4), (0, .val x5), (0, .val x5), (0, .val x7), (0, .val (.bool true)), (0, .val t0), (0, .val t0), (0, .val x8), (0, .val x9), (0, .val x10), (0, .val (.bool true)), (0, .val (.tuple [])), (0, .val (.tuple [])), (0, .val (.tuple [])), (0, .val (.tuple [])), (0, .val (.tuple [])), (0, .val (.tuple [])), (0, .val (.bool true)), (0, .val (.bool true))] fun fr11 => (p15_1 π C fr11 σ6 (seqK (p15_2 π C) k)))) (fun _ => (π.nc t0 fun _ => (π.add t0 379 fun x12 => (π.ld σ6 false 1 x12 fun x13 => (π.bin PG .and 22 true x13 (.int .u64 (Int.ofNat 8)) fun x14 => (π.bin PG .neq 22 true x14 (.int .u64 (Int.ofNat 0)) fun x15 => (updS fr [(4, .val (.int .i64 (Int.ofNat 0))), (0, .val (.bool false)), (0, .val x0), (0, .val x5), (1, .val t0), (0, .val t1), (0, .val x0), (0, .val x0), (0, .val t0), (0, .val t0), (0, .val x2), (0, .val x3), (0, .val x4), (0, .val x5), (0, .val x5), (0, .val x7), (0, .val (.bool true)), (0, .val t0), (0, .val t0), (0, .val x8), (0, .val x9), (0, .val x10), (0, .val (.bool false)), (0, .val t0), (0, .val t0), (0, .val x12), (0, .val x13), (0, .val x14), (0, .val x15), (0, .val x15), (0, .val x15)] fun fr16 => (p15_1 π C fr16 σ6 (seqK (p15_2 π C) k))))))))) (fun _ => none))))))) (fun _ => (updS fr [(4, .val (.int .i64 (Int.ofNat 0))), (0, .val (.bool false)), (0, .val x0), (0, .val x5), (1, .val t0), (0, .val t1), (0, .val x0), (0, .val x0), (0, .val t0), (0, .val t0), (0, .val x2), (0, .val x3), (0, .val x4), (0, .val x5), (0, .val x5), (0, .val x7), (0, .val (.bool false)), (0, .val (.tuple [])), (0, .val (.tuple [])), (0, .val (.tuple [])), (0, .val (.tuple [])), (0, .val (.tuple [])), (0, .val (.tuple [])), (0, .val (.tuple [])), (0, .val (.tuple [])), (0, .val (.tuple [])), (0, .val (.tuple [])), (0, .val (.tuple [])), (0, .val (.tuple [])), (0, .val (.tuple [])), (0, .val (.bool false))] fun fr17 => (p15_1 π C fr17 σ6 (seqK (p15_2 π C) k)))) (fun _ => none)))) (fun x18 σ19 => (updS fr [(4, .val (.int .i64 (Int.ofNat 0))), (0, .val (.bool false)), (0, .val x0), (2, .val t0), (0, .val t1), (0, .val x0), (0, .val x0), (0, .val t0), (0, .val t0), (0, .val x2), (0, .val x3), (0, .val x4)] fun fr20 => (k (.panic x18) fr20 σ19))))))))) (fun x21 σ22 => (updS fr [(4, .val (.int .i64 (Int.ofNat 0))), (0, .val (.bool false)), (3, .val t0), (0, .val t1)] fun fr23 => (k (.panic x21) fr23 σ22))))))))) (execG π PG C (cd PG 15) fr σ k)
theorem p15_0_eq {α : Type} (π : Prims α) (C : CallF α) : execG π PG C (cd PG 15) = p15_0 π C := by
  funext fr σ k
  obtain ⟨slots, defers, esc, rc⟩ := fr
  unfold p15_0
  iterate 2 (refine dV_eq fun _ _ h => ?_; subst h)
  iterate 34 (refine dKs_eq fun _ _ h => ?_; subst h)
  refine dK0_eq ?_
  refine dN_eq fun h => ?_; subst h
  try rw [← p15_2_eq π C]
  try rw [← p15_1_eq π C]
  refine sk_eq (.seq (.run (sA (cd PG 15))) (.seq (.run (sA (sB (cd PG 15)))) (.seq (.seq (.run (sA (sA (sB (sB (cd PG 15)))))) (.seq (.run (sA (sB (sA (sB (sB (cd PG 15))))))) (.hole (sB (sB (sA (sB (sB (cd PG 15))))))))) (.hole (sB (sB (sB (cd PG 15)))))))) (by kernel_rfl) ?_
  generalize execG π PG C = H
  kernel_rfl
-- 21 (*ravelin/bus Bus) find
noncomputable def p21_5 {α : Type} (π : Prims α) (C : CallF α) (fr : Fr) (σ : St) (k : Ex → Fr → St → Option α) : Option α :=
  (fun no => (dK 1 fr.slots no fun r1 => (dV r1 no fun t1 r2 => (dV r2 no fun t2 r3 => (dK 24 r3 no fun r27 => (dV r27 no fun t27 r28 => (dK 1 r28 no fun r29 => (dV r29 no fun t29 r30 => (dK 15 r30 no fun r45 => (dN fr.esc 0 no (π.idxAddr PG 122 t27 t29 fun x0 => (π.ld σ true 3 x0 fun x1 => (updS fr [(31, .val x0), (0, .val x1)] fun fr2 => (nbS fr2 9 zl125 fun fr3 => (π.put zl125 0 3 x1 fun c4 => (π.part true c4 0 3 fun x5 => (C 55 [x5, t1, t2] σ (fun x6 σ7 => (π.extract x6 0 fun x8 => (π.extract x6 1 fun x9 => (π.cond x9 (fun _ => (π.part true c4 0 3 fun x10 => (updS fr3 [(6, .val (.iface 125 x10)), (0, .val x8), (1, .box c4), (0, .val x8), (0, .val x9), (21, .val x6), (0, .val x5), (0, .val t1), (0, .val t2), (0, .val x6), (0, .val x8), (0, .val x9), (0, .val x9), (0, .val x10), (0, .val (.iface 125 x10)), (0, .val x8)] fun fr11 => (k .ret fr11 σ7)))) (fun _ => (π.bin PG .add 3 true t29 (.int .i64 (Int.ofNat 1)) fun x12 => (updS fr3 [(9, .box c4), (0, .val x8), (0, .val x9), (17, .val x12), (3, .val x6), (0, .val x5), (0, .val t1), (0, .val t2), (0, .val x6), (0, .val x8), (0, .val x9), (0, .val x9), (3, .val x12)] fun fr13 => (k .normal fr13 σ7)))))))) (fun x14 σ15 => (updS fr3 [(9, .box c4), (24, .val x5), (0, .val t1), (0, .val t2)] fun fr16 => (k (.panic x14) fr16 σ15)))))))))))))))))))) (execG π PG C (sB (sB (lK (bK (sB (sA (sB (sB (cd PG 21))))))))) fr σ k)
theorem p21_5_eq {α : Type} (π : Prims α) (C : CallF α) : execG π PG C (sB (sB (lK (bK (sB (sA (sB (sB (cd PG 21))))))))) = p21_5 π C := by
  funext fr σ k
  obtain ⟨slots, defers, esc, rc⟩ := fr
  unfold p21_5
  iterate 1 (refine dKs_eq fun _ _ h => ?_; subst h)
  refine dK0_eq ?_
  iterate 2 (refine dV_eq fun _ _ h => ?_; subst h)
  iterate 24 (refine dKs_eq fun _ _ h => ?_; subst h)
  refine dK0_eq ?_
  refine dV_eq fun _ _ h => ?_; subst h
  iterate 1 (refine dKs_eq fun _ _ h => ?_; subst h)
  refine dK0_eq ?_
  refine dV_eq fun _ _ h => ?_; subst h
  iterate 15 (refine dKs_eq fun _ _ h => ?_; subst h)
  refine dK0_eq ?_
  refine dN_eq fun h => ?_; subst h
  refine sk_eq (.seq (.block 1 (.seq (.run (sA (bK (sA (sB (sB (lK (bK (sB (sA (sB (sB (cd PG 21))))))))))))) (.seq (.run (sA (sB (bK (sA (sB (sB (lK (bK (sB (sA (sB (sB (cd PG 21)))))))))))))) (.seq (.run (sA (sB (sB (bK (sA (sB (sB (lK (bK (sB (sA (sB (sB (cd PG 21))))))))))))))) (.cond (cX (sB (sB (sB (bK (sA (sB (sB (lK (bK (sB (sA (sB (sB (cd PG 21))))))))))))))) (.seq (.run (sA (cA (sB (sB (sB (bK (sA (sB (sB (lK (bK (sB (sA (sB (sB (cd PG 21))))))))))))))))) (.run (sB (cA (sB (sB (sB (bK (sA (sB (sB (lK (bK (sB (sA (sB (sB (cd PG 21)))))))))))))))))) (.run (cB (sB (sB (sB (bK (sA (sB (sB (lK (bK (sB (sA (sB (sB (cd PG 21))))))))))))))))))))) (.run (sB (sB (sB (lK (bK (sB (sA (sB (sB (cd PG 21)))))))))))) (by kernel_rfl) ?_
  generalize execG π PG C = H
  kernel_rfl
noncomputable def p21_4 {α : Type} (π : Prims α) (C : CallF α) (fr : Fr) (σ : St) (k : Ex → Fr → St → Option α) : Option α :=
  (fun no => (dK 28 fr.slots no fun r28 => (dV r28 no fun t28 r29 => (dV r29 no fun t29 r30 => (dK 1 r30 no fun r31 => (dN fr.esc 0 no (π.bin PG .lss 3 false t29 t28 fun x0 => (π.cond x0 (fun _ => (updS fr [(30, .val x0)] fun fr1 => (p21_5 π C fr1 σ k))) (fun _ => (updS fr [(30, .val x0)] fun fr2 => (k (.exit 0) fr2 σ))))))))))) (execG π PG C (lK (bK (sB (sA (sB (sB (cd PG 21))))))) fr σ k)
theorem p21_4_eq {α : Type} (π : Prims α) (C : CallF α) : execG π PG C (lK (bK (sB (sA (sB (sB (cd PG 21))))))) = p21_4 π C := by
  funext fr σ k
  obtain ⟨slots, defers, esc, rc⟩ := fr
  unfold p21_4
  iterate 28 (refine dKs_eq fun _ _ h => ?_; subst h)
  refine dK0_eq ?_
  iterate 2 (refine dV_eq fun _ _ h => ?_; subst h)
  iterate 1 (refine dKs_eq fun _ _ h => ?_; subst h)
  refine dK0_eq ?_
  refine dN_eq fun h => ?_; subst h
  try rw [← p21_5_eq π C]
  refine sk_eq (.seq (.run (sA (lK (bK (sB (sA (sB (sB (cd PG 21))))))))) (.seq (.cond (cX (sA (sB (lK (bK (sB (sA (sB (sB (cd PG 21)))))))))) (.run (cA (sA (sB (lK (bK (sB (sA (sB (sB (cd PG 21))))))))))) (.run (cB (sA (sB (lK (bK (sB (sA (sB (sB (cd PG 21)))))))))))) (.hole (sB (sB (lK (bK (sB (sA (sB (sB (cd PG 21)))))))))))) (by kernel_rfl) ?_
  generalize execG π PG C = H
  kernel_rfl
noncomputable def p21_3 {α : Type} (π : Prims α) (C : CallF α) (fr : Fr) (σ : St) (k : Ex → Fr → St → Option α) : Option α :=
  (fun no => (dK 8 fr.slots no fun r8 => (dN fr.esc 0 no (updS fr [(6, .val .nilIface), (0, .val (.int .i64 (Int.ofNat 0)))] fun fr0 => (k .ret fr0 σ))))) (execG π PG C (sB (sB (sB (cd PG 21)))) fr σ k)
theorem p21_3_eq {α : Type} (π : Prims α) (C : CallF α) : execG π PG C (sB (sB (sB (cd PG 21)))) = p21_3 π C := by
  funext fr σ k
  obtain ⟨slots, defers, esc, rc⟩ := fr
  unfold p21_3
  iterate 8 (refine dKs_eq fun _ _ h => ?_; subst h)
  refine dK0_eq ?_
  refine dN_eq fun h => ?_; subst h
  refine sk_eq (.seq (.run (sA (sB (sB (sB (cd PG 21)))))) (.run (sB (sB (sB (sB (cd PG 21))))))) (by kernel_rfl) ?_
  generalize execG π PG C = H
  kernel_rfl
noncomputable def p21_2 {α : Type} (π : Prims α) (C : CallF α) (fr : Fr) (σ : St) (k : Ex → Fr → St → Option α) : Option α :=
  (fun no => (dV fr.slots no fun t0 r1 => (dK 29 r1 no fun r30 => (dN fr.esc 0 no (C 54 [t0] σ (fun x0 σ1 => (π.len PG 122 x0 fun x2 => (updS fr [(26, .val t0), (0, .val x0), (0, .val x2), (0, .val (.int .i64 (Int.ofNat 0)))] fun fr3 => (π.loop (p21_4 π C) fr3 σ1 (blkK 0 (seqK (p21_3 π C) k)))))) (fun x4 σ5 => (updS fr [(26, .val t0)] fun fr6 => (k (.panic x4) fr6 σ5)))))))) (execG π PG C (sB (sB (cd PG 21))) fr σ k)
theorem p21_2_eq {α : Type} (π : Prims α) (C : CallF α) : execG π PG C (sB (sB (cd PG 21))) = p21_2 π C := by
  funext fr σ k
  obtain ⟨slots, defers, esc, rc⟩ := fr
  unfold p21_2
  refine dV_eq fun _ _ h => ?_; subst h
  iterate 29 (refine dKs_eq fun _ _ h => ?_; subst h)
  refine dK0_eq ?_
  refine dN_eq fun h => ?_; subst h
  try rw [← p21_4_eq π C]
  try rw [← p21_3_eq π C]
  refine sk_eq (.seq (.seq (.run (sA (sA (sB (sB (cd PG 21)))))) (.block 0 (.loopH (lK (bK (sB (sA (sB (sB (cd PG 21)))))))))) (.hole (sB (sB (sB (cd PG 21)))))) (by kernel_rfl) ?_
  generalize execG π PG C = H
  kernel_rfl
noncomputable def p21_1 {α : Type} (π : Prims α) (C : CallF α) (fr : Fr) (σ : St) (k : Ex → Fr → St → Option α) : Option α :=
  (fun no => (dK 25 fr.slots no fun r25 => (dV r25 no fun t25 r26 => (dN fr.esc 0 no (π.cond t25 (fun _ => (updS fr [(6, .val .nilIface), (0, .val (.int .i64 (Int.ofNat 0)))] fun fr0 => (k .ret fr0 σ))) (fun _ => (k .normal fr σ))))))) (execG π PG C (sB (sA (sB (cd PG 21)))) fr σ k)
theorem p21_1_eq {α : Type} (π : Prims α) (C : CallF α) : execG π PG C (sB (sA (sB (cd PG 21)))) = p21_1 π C := by
  funext fr σ k
  obtain ⟨slots, defers, esc, rc⟩ := fr
  unfold p21_1
  iterate 25 (refine dKs_eq fun _ _ h => ?_; subst h)
  refine dK0_eq ?_
  refine dV_eq fun _ _ h => ?_; subst h
  refine dN_eq fun h => ?_; subst h
  refine sk_eq (.cond (cX (sB (sA (sB (cd PG 21))))) (.seq (.run (sA (cA (sB (sA (sB (cd PG 21))))))) (.run (sB (cA (sB (sA (sB (cd PG 21)))))))) (.run (cB (sB (sA (sB (cd PG 21))))))) (by kernel_rfl) ?_
  generalize execG π PG C = H
  kernel_rfl
noncomputable def p21_0 {α : Type} (π : Prims α) (C : CallF α) (fr : Fr) (σ : St) (k : Ex → Fr → St → Option α) : Option α :=
  (fun no => (dK 2 fr.slots no fun r2 => (dV r2 no fun t2 r3 => (dK 23 r3 no fun r26 => (dN fr.esc 0 no (π.bin PG .neq 3 true t2 (.int .i64 (Int.ofNat 1)) fun x0 => (gdF x0 (fun _ => (π.bin PG .neq 3 true t2 (.int .i64 (Int.ofNat 2)) fun x1 => (gdF x1 (fun _ => (π.bin PG .neq 3 true t2 (.int .i64 (Int.ofNat 4)) fun x2 => (gdF x2 (fun _ => (π.bin PG .neq 3 true t2 (.int .i64 (Int.ofNat 8)) fun x3 => (updS fr [(6, .val .nilIface), (0, .val (.int .i64 (Int.ofNat 0))), (4, .val t2), (0, .val x0), (0, .val (.bool true)), (0, .val t2), (0, .val x1), (0, .val x1), (0, .val (.bool true)), (0, .val t2), (0, .val x2), (0, .val x2), (0, .val (.bool true)), (0, .val t2), (0, .val x3), (0, .val x3)] fun fr4 => (p21_1 π C fr4 σ (seqK (p21_2 π C) k))))) (fun _ => (updS fr [(6, .val .nilIface), (0, .val (.int .i64 (Int.ofNat 0))), (4, .val t2), (0, .val x0), (0, .val (.bool true)), (0, .val t2), (0, .val x1), (0, .val x1), (0, .val (.bool true)), (0, .val t2), (0, .val x2), (0, .val x2), (0, .val (.bool false)), (0, .val (.tuple [])), (0, .val (.tuple [])), (0, .val (.bool false))] fun fr5 => (p21_1 π C fr5 σ (seqK (p21_2 π C) k)))) (fun _ => none)))) (fun _ => (updS fr [(6, .val .nilIface), (0, .val (.int .i64 (Int.ofNat 0))), (4, .val t2), (0, .val x0), (0, .val (.bool true)), (0, .val t2), (0, .val x1), (0, .val x1), (0, .val (.bool false)), (0, .val (.tuple [])), (0, .val (.tuple [])), (0, .val (.bool false)), (0, .val (.bool false)), (0, .val (.tuple [])), (0, .val (.tuple [])), (0, .val (.bool false))] fun fr6 => (p21_1 π C fr6 σ (seqK (p21_2 π C) k)))) (fun _ => none)))) (fun _ => (updS fr [(6, .val .nilIface), (0, .val (.int .i64 (Int.ofNat 0))), (4, .val t2), (0, .val x0), (0, .val (.bool false)), (0, .val (.tuple [])), (0, .val (.tuple [])), (0, .val (.bool false)), (0, .val (.bool false)), (0, .val (.tuple [])), (0, .val (.tuple [])), (0, .val (.bool false)), (0, .val (.bool false)), (0, .val (.tuple [])), (0, .val (.tuple [])), (0, .val (.bool false))] fun fr7 => (p21_1 π C fr7 σ (seqK (p21_2 π C) k)))) (fun _ => none)))))))) (execG π PG C (cd PG 21) fr σ k)
theorem p21_0_eq {α : Type} (π : Prims α) (C : CallF α) : execG π PG C (cd PG 21) = p21_0 π C := by
  funext fr σ k
  obtain ⟨slots, defers, esc, rc⟩ := fr
  unfold p21_0
  iterate 2 (refine dKs_eq fun _ _ h => ?_; subst h)
  refine dK0_eq ?_
  refine dV_eq fun _ _ h => ?_; subst h
  iterate 23 (refine dKs_eq fun _ _ h => ?_; subst h)
  refine dK0_eq ?_
  refine dN_eq fun h => ?_; subst h
  try rw [← p21_2_eq π C]
  try rw [← p21_1_eq π C]
  refine sk_eq (.seq (.run (sA (cd PG 21))) (.seq (.seq (.run (sA (sA (sB (cd PG 21))))) (.hole (sB (sA (sB (cd PG 21)))))) (.hole (sB (sB (cd PG 21)))))) (by kernel_rfl) ?_
  generalize execG π PG C = H
  kernel_rfl
-- 404 (*ravelin/clint Clint) Store
noncomputable def p404_1 {α : Type} (π : Prims α) (C : CallF α) (fr : Fr) (σ : St) (k : Ex → Fr → St → Option α) : Option α :=
  (fun no => (dK 9 fr.slots no fun r9 => (dN fr.esc 5248 no (updS fr [(8, .val (.bool true))] fun fr0 => (k .ret fr0 σ))))) (execG π PG C (sB (sB (sB (sB (sB (sB (cd PG 404))))))) fr σ k)
theorem p404_1_eq {α : Type} (π : Prims α) (C : CallF α) : execG π PG C (sB (sB (sB (sB (sB (sB (cd PG 404))))))) = p404_1 π C := by
  funext fr σ k
  obtain ⟨slots, defers, esc, rc⟩ := fr
  unfold p404_1
  iterate 9 (refine dKs_eq fun _ _ h => ?_; subst h)
  refine dK0_eq ?_
  refine dN_eq fun h => ?_; subst h
  refine sk_eq (.seq (.run (sA (sB (sB (sB (sB (sB (sB (cd PG 404))))))))) (.run (sB (sB (sB (sB (sB (sB (sB (cd PG 404)))))))))) (by kernel_rfl) ?_
  generalize execG π PG C = H
  kernel_rfl
noncomputable def p404_0 {α : Type} (π : Prims α) (C : CallF α) (fr : Fr) (σ : St) (k : Ex → Fr → St → Option α) : Option α :=
  (fun no => (dV fr.slots no fun t0 r1 => (dV r1 no fun t1 r2 => (dV r2 no fun t2 r3 => (dV r3 no fun t3 r4 => (dK 8 r4 no fun r12 => (dV r12 no fun t12 r13 => (dK 10 r13 no fun r23 => (dV r23 no fun t23 r24 => (dV r24 no fun t24 r25 => (dV r25 no fun t25 r26 => (dV r26 no fun t26 r27 => (dV r27 no fun t27 r28 => (dV r28 no fun t28 r29 => (dK 20 r29 no fun r49 => (dV r49 no fun t49 r50 => (dV r50 no fun t50 r51 => (dV r51 no fun t51 r52 => (dV r52 no fun t52 r53 => (dV r53 no fun t53 r54 => (dV r54 no fun t54 r55 => (dV r55 no fun t55 r56 => (dV r56 no fun t56 r57 => (dN fr.esc 5248 no (dataF t3 7 fun _ => π.alloc σ (.cells 0 (AVal.cells t3)) fun x0 σ1 => (C 405 [t1, t2] σ1 (fun x2 σ3 => (π.extract x2 0 fun x4 => (π.extract x2 1 fun x5 => (π.extract x2 2 fun x6 => (π.alloc σ3 (.cells 0 zl3) fun x7 σ8 => (π.st σ8 1 x7 x5 fun σ9 => (π.un .not x6 fun x10 => (π.cond x10 (fun _ => (updS fr [(7, .val x0), (0, .val (.bool false)), (0, .val x4), (0, .val x7), (0, .val x6), (2, .val x2), (0, .val t1), (0, .val t2), (0, .val x2), (0, .val x4), (0, .val x5), (0, .val x6), (0, .val x6), (0, .val x10)] fun fr11 => (k .ret fr11 σ9))) (fun _ => (π.bin PG .mul 3 true (.int .i64 (Int.ofNat 8)) t2 fun x12 => (π.bin PG .sub 3 true (.int .i64 (Int.ofNat 64)) x12 fun x13 => (π.bin PG .shr 22 true (.int .u64 (Int.ofNat 18446744073709551615)) x13 fun x14 => (π.ld σ9 false 1 x7 fun x15 => (π.bin PG .shl 22 false x14 x15 fun x16 => (π.alloc σ9 (.cells 0 zl22) fun x17 σ18 => (π.st σ18 1 x17 x16 fun σ19 => (π.bin PG .eql 3 true x4 (.int .i64 (Int.ofNat 16384)) fun x20 => (π.cond x20 (fun _ => (π.nc t0 fun _ => (π.add t0 1 fun x21 => (π.ld σ19 false 1 x21 fun x22 => (callV C (.func (.func 406) [] [x17, x0, x7]) [x22] σ19 (fun x23 σ24 => (π.nc t0 fun _ => (π.add t0 1 fun x25 => (π.st σ24 1 x25 x23 fun σ26 => (updS fr [(7, .val x0), (0, .val (.bool false)), (0, .val x4), (0, .val x7), (0, .val x6), (0, .val x17), (0, .val (.func (.func 406) [] [x17, x0, x7])), (0, .val x2), (0, .val t1), (0, .val t2), (0, .val x2), (0, .val x4), (0, .val x5), (0, .val x6), (0, .val x6), (0, .val x10), (0, .val t2), (0, .val x12), (0, .val x13), (0, .val x14), (0, .val x15), (0, .val x16), (0, .val (.func (.func 406) [] [x17, x0, x7])), (0, .val x4), (5, .val x20), (0, .val x20), (0, .val t0), (0, .val (.func (.func 406) [] [x17, x0, x7])), (0, .val t0), (0, .val t0), (0, .val x21), (0, .val x22), (0, .val x23), (0, .val t0), (0, .val x25)] fun fr27 => (p404_1 π C fr27 σ26 k)))))) (fun x28 σ29 => (updS fr [(7, .val x0), (0, .val (.bool false)), (0, .val x4), (0, .val x7), (0, .val x6), (0, .val x17), (0, .val (.func (.func 406) [] [x17, x0, x7])), (0, .val x2), (0, .val t1), (0, .val t2), (0, .val x2), (0, .val x4), (0, .val x5), (0, .val x6), (0, .val x6), (0, .val x10), (0, .val t2), (0, .val x12), (0, .val x13), (0, .val x14), (0, .val x15), (0, .val x16), (0, .val (.func (.func 406) [] [x17, x0, x7])), (0, .val x4), (5, .val x20), (0, .val x20), (0, .val t0), (0, .val (.func (.func 406) [] [x17, x0, x7])), (0, .val t0), (0, .val t0), (0, .val x21), (0, .val x22)] fun fr30 => (k (.panic x28) fr30 σ29)))))))) (fun _ => (π.bin PG .eql 3 true x4 (.int .i64 (Int.ofNat 49144)) fun x31 => (π.cond x31 (fun _ => (π.nc t0 fun _ => (π.add t0 0 fun x32 => ((lockCall false C) 62 [t0] σ19 (fun x33 σ34 => (callV (lockCall false C) (.func (.func 406) [] [x17, x0, x7]) [x33] σ34 (fun x35 σ36 => ((lockCall false C) 407 [x32, x35] σ36 (fun x37 σ38 => (updS fr [(7, .val x0), (0, .val (.bool false)), (0, .val x4), (0, .val x7), (0, .val x6), (0, .val x17), (0, .val (.func (.func 406) [] [x17, x0, x7])), (0, .val x2), (0, .val t1), (0, .val t2), (0, .val x2), (0, .val x4), (0, .val x5), (0, .val x6), (0, .val x6), (0, .val x10), (0, .val t2), (0, .val x12), (0, .val x13), (0, .val x14), (0, .val x15), (0, .val x16), (0, .val (.func (.func 406) [] [x17, x0, x7])), (0, .val x4), (5, .val x20), (0, .val x20), (9, .val x31), (0, .val x31), (0, .val t0), (0, .val t0), (0, .val x32), (0, .val (.func (.func 406) [] [x17, x0, x7])), (0, .val t0), (0, .val x33), (0, .val x35), (0, .val x37)] fun fr39 => (p404_1 π C fr39 σ38 k))) (fun x40 σ41 => none))) (fun x42 σ43 => none))) (fun x44 σ45 => none))))) (fun _ => (π.ld σ19 false 1 x0 fun x46 => (π.bin PG .and 22 true x46 (.int .u64 (Int.ofNat 1)) fun x47 => (π.nc t0 fun _ => (π.add t0 2 fun x48 => (π.st σ19 1 x48 x47 fun σ49 => (updS fr [(7, .val x0), (0, .val (.bool false)), (0, .val x4), (0, .val x7), (0, .val x6), (0, .val x17), (0, .val (.func (.func 406) [] [x17, x0, x7])), (0, .val x2), (0, .val t1), (0, .val t2), (0, .val x2), (0, .val x4), (0, .val x5), (0, .val x6), (0, .val x6), (0, .val x10), (0, .val t2), (0, .val x12), (0, .val x13), (0, .val x14), (0, .val x15), (0, .val x16), (0, .val (.func (.func 406) [] [x17, x0, x7])), (0, .val x4), (0, .val t0), (0, .val x46), (0, .val x47), (0, .val t0), (0, .val x48), (0, .val x20), (0, .val x20), (9, .val x31), (0, .val x31)] fun fr50 => (p404_1 π C fr50 σ49 k))))))))))))))))))))))))))))) (fun x51 σ52 => (updS fr [(7, .val x0), (0, .val (.bool false)), (6, .val t1), (0, .val t2)] fun fr53 => (k (.panic x51) fr53 σ52))))))))))))))))))))))))))))) (execG π PG C (cd PG 404) fr σ k)
theorem p404_0_eq {α : Type} (π : Prims α) (C : CallF α) : execG π PG C (cd PG 404) = p404_0 π C := by
  funext fr σ k
  obtain ⟨slots, defers, esc, rc⟩ := fr
  unfold p404_0
  iterate 4 (refine dV_eq fun _ _ h => ?_; subst h)
  iterate 8 (refine dKs_eq fun _ _ h => ?_; subst h)
  refine dK0_eq ?_
  refine dV_eq fun _ _ h => ?_; subst h
  iterate 10 (refine dKs_eq fun _ _ h => ?_; subst h)
  refine dK0_eq ?_
  iterate 6 (refine dV_eq fun _ _ h => ?_; subst h)
  iterate 20 (refine dKs_eq fun _ _ h => ?_; subst h)
  refine dK0_eq ?_
  iterate 8 (refine dV_eq fun _ _ h => ?_; subst h)
  refine dN_eq fun h => ?_; subst h
  try rw [← p404_1_eq π C]
  refine sk_eq (.seq (.run (sA (cd PG 404))) (.seq (.run (sA (sB (cd PG 404)))) (.seq (.seq (.run (sA (sA (sB (sB (cd PG 404)))))) (.cond (cX (sB (sA (sB (sB (cd PG 404)))))) (.seq (.run (sA (cA (sB (sA (sB (sB (cd PG 404)))))))) (.run (sB (cA (sB (sA (sB (sB (cd PG 404))))))))) (.run (cB (sB (sA (sB (sB (cd PG 404))))))))) (.seq (.run (sA (sB (sB (sB (cd PG 404)))))) (.seq (.run (sA (sB (sB (sB (sB (cd PG 404))))))) (.seq (.seq (.run (sA (sA (sB (sB (sB (sB (sB (cd PG 404))))))))) (.block 0 (.seq (.run (sA (bK (sB (sA (sB (sB (sB (sB (sB (cd PG 404))))))))))) (.cond (cX (sB (bK (sB (sA (sB (sB (sB (sB (sB (cd PG 404))))))))))) (.run (cA (sB (bK (sB (sA (sB (sB (sB (sB (sB (cd PG 404)))))))))))) (.seq (.run (sA (cB (sB (bK (sB (sA (sB (sB (sB (sB (sB (cd PG 404))))))))))))) (.cond (cX (sB (cB (sB (bK (sB (sA (sB (sB (sB (sB (sB (cd PG 404))))))))))))) (.run (cA (sB (cB (sB (bK (sB (sA (sB (sB (sB (sB (sB (cd PG 404)))))))))))))) (.run (cB (sB (cB (sB (bK (sB (sA (sB (sB (sB (sB (sB (cd PG 404)))))))))))))))))))) (.hole (sB (sB (sB (sB (sB (sB (cd PG 404)))))))))))))) (by kernel_rfl) ?_
  generalize execG π PG C = H
  kernel_rfl
-- 4 ravelin/ravelinlaw29 begin
noncomputable def p4_3 {α : Type} (π : Prims α) (C : CallF α) (fr : Fr) (σ : St) (k : Ex → Fr → St → Option α) : Option α :=
  (fun no => (dK 1 fr.slots no fun r1 => (dB r1 no fun t1 r2 => (dV r2 no fun t2 r3 => (dK 13 r3 no fun r16 => (dN fr.esc 0 no (C 10 [(.int .u64 (Int.ofNat 0))] σ (fun x0 σ1 => (ixRF 32 9 0 t2 fun o2 => (π.put t1 o2 9 x0 fun c3 => (π.bin PG .add 3 true t2 (.int .i64 (Int.ofNat 1)) fun x4 => (updS fr [(1, .box c3), (0, .val x4), (7, .val t2), (0, .val x4), (0, .val t2), (0, .val x0), (0, .ref 1 0), (0, .ref 1 o2)] fun fr5 => (k .normal fr5 σ1)))))) (fun x6 σ7 => (updS fr [(12, .val t2)] fun fr8 => (k (.panic x6) fr8 σ7)))))))))) (execG π PG C (sB (lK (bK (sB (sA (sB (sB (cd PG 4)))))))) fr σ k)
theorem p4_3_eq {α : Type} (π : Prims α) (C : CallF α) : execG π PG C (sB (lK (bK (sB (sA (sB (sB (cd PG 4)))))))) = p4_3 π C := by
  funext fr σ k
  obtain ⟨slots, defers, esc, rc⟩ := fr
  unfold p4_3
  iterate 1 (refine dKs_eq fun _ _ h => ?_; subst h)
  refine dK0_eq ?_
  refine dB_eq fun _ _ h => ?_; subst h
  refine dV_eq fun _ _ h => ?_; subst h
  iterate 13 (refine dKs_eq fun _ _ h => ?_; subst h)
  refine dK0_eq ?_
  refine dN_eq fun h => ?_; subst h
  refine sk_eq (.seq (.block 1 (.run (bK (sA (sB (lK (bK (sB (sA (sB (sB (cd PG 4)))))))))))) (.run (sB (sB (lK (bK (sB (sA (sB (sB (cd PG 4))))))))))) (by kernel_rfl) ?_
  generalize execG π PG C = H
  kernel_rfl
noncomputable def p4_2 {α : Type} (π : Prims α) (C : CallF α) (fr : Fr) (σ : St) (k : Ex → Fr → St → Option α) : Option α :=
  (fun no => (dK 2 fr.slots no fun r2 => (dV r2 no fun t2 r3 => (dK 7 r3 no fun r10 => (dN fr.esc 0 no (π.bin PG .lss 3 true t2 (.int .i64 (Int.ofNat 32)) fun x0 => (π.cond x0 (fun _ => (updS fr [(8, .val t2), (0, .val x0)] fun fr1 => (p4_3 π C fr1 σ k))) (fun _ => (updS fr [(8, .val t2), (0, .val x0)] fun fr2 => (k (.exit 0) fr2 σ)))))))))) (execG π PG C (lK (bK (sB (sA (sB (sB (cd PG 4))))))) fr σ k)
theorem p4_2_eq {α : Type} (π : Prims α) (C : CallF α) : execG π PG C (lK (bK (sB (sA (sB (sB (cd PG 4))))))) = p4_2 π C := by
  funext fr σ k
  obtain ⟨slots, defers, esc, rc⟩ := fr
  unfold p4_2
  iterate 2 (refine dKs_eq fun _ _ h => ?_; subst h)
  refine dK0_eq ?_
  refine dV_eq fun _ _ h => ?_; subst h
  iterate 7 (refine dKs_eq fun _ _ h => ?_; subst h)
  refine dK0_eq ?_
  refine dN_eq fun h => ?_; subst h
  try rw [← p4_3_eq π C]
  refine sk_eq (.seq (.seq (.run (sA (sA (lK (bK (sB (sA (sB (sB (cd PG 4)))))))))) (.cond (cX (sB (sA (lK (bK (sB (sA (sB (sB (cd PG 4)))))))))) (.run (cA (sB (sA (lK (bK (sB (sA (sB (sB (cd PG 4))))))))))) (.run (cB (sB (sA (lK (bK (sB (sA (sB (sB (cd PG 4))))))))))))) (.hole (sB (lK (bK (sB (sA (sB (sB (cd PG 4)))))))))) (by kernel_rfl) ?_
  generalize execG π PG C = H
  kernel_rfl
noncomputable def p4_1 {α : Type} (π : Prims α) (C : CallF α) (fr : Fr) (σ : St) (k : Ex → Fr → St → Option α) : Option α :=
  (fun no => (dB fr.slots no fun t0 r1 => (dB r1 no fun t1 r2 => (dK 15 r2 no fun r17 => (dN fr.esc 0 no (π.part true t1 0 396 fun x0 => (π.put t0 0 396 x0 fun c1 => (updS fr [(0, .box c1), (15, .val x0)] fun fr2 => (k .ret fr2 σ))))))))) (execG π PG C (sB (sB (sB (cd PG 4)))) fr σ k)
theorem p4_1_eq {α : Type} (π : Prims α) (C : CallF α) : execG π PG C (sB (sB (sB (cd PG 4)))) = p4_1 π C := by
  funext fr σ k
  obtain ⟨slots, defers, esc, rc⟩ := fr
  unfold p4_1
  iterate 2 (refine dB_eq fun _ _ h => ?_; subst h)
  iterate 15 (refine dKs_eq fun _ _ h => ?_; subst h)
  refine dK0_eq ?_
  refine dN_eq fun h => ?_; subst h
  refine sk_eq (.seq (.run (sA (sB (sB (sB (cd PG 4)))))) (.run (sB (sB (sB (sB (cd PG 4))))))) (by kernel_rfl) ?_
  generalize execG π PG C = H
  kernel_rfl
noncomputable def p4_0 {α : Type} (π : Prims α) (C : CallF α) (fr : Fr) (σ : St) (k : Ex → Fr → St → Option α) : Option α :=
  (fun no => (dK 8 fr.slots no fun r8 => (dN fr.esc 0 no (nbS fr 0 zl27 fun fr0 => (C 9 [(.int .i64 (Int.ofNat 0)), (.int .u64 (Int.ofNat 2147483648))] σ (fun x1 σ2 => (C 9 [(.int .i64 (Int.ofNat 0)), (.int .u64 (Int.ofNat 0))] σ2 (fun x3 σ4 => (C 9 [(.int .i64 (Int.ofNat 0)), (.int .u64 (Int.ofNat 2147483904))] σ4 (fun x5 σ6 => (C 9 [(.int .i64 (Int.ofNat 0)), (.int .u64 (Int.ofNat 2147484160))] σ6 (fun x7 σ8 => (π.put zl27 378 1 (.int .i64 (Int.ofNat 3)) fun c9 => (π.put c9 288 9 x1 fun c10 => (π.put c10 297 9 x3 fun c11 => (π.put c11 342 9 x5 fun c12 => (π.put c12 306 9 x7 fun c13 => (updS fr0 [(3, .val x1), (0, .val x3), (0, .val x5), (0, .val x7), (0, .val (.agg c13))] fun fr14 => (nbS fr14 1 zl27 fun fr15 => (π.put zl27 0 396 (.agg c13) fun c16 => (updS fr15 [(1, .box c16), (0, .val (.int .i64 (Int.ofNat 0)))] fun fr17 => (π.loop (p4_2 π C) fr17 σ8 (blkK 0 (seqK (p4_1 π C) k))))))))))))) (fun x18 σ19 => (updS fr0 [(3, .val x1), (0, .val x3), (0, .val x5)] fun fr20 => (k (.panic x18) fr20 σ19))))) (fun x21 σ22 => (updS fr0 [(3, .val x1), (0, .val x3)] fun fr23 => (k (.panic x21) fr23 σ22))))) (fun x24 σ25 => (updS fr0 [(3, .val x1)] fun fr26 => (k (.panic x24) fr26 σ25))))) (fun x27 σ28 => (k (.panic x27) fr0 σ28))))))) (execG π PG C (cd PG 4) fr σ k)
theorem p4_0_eq {α : Type} (π : Prims α) (C : CallF α) : execG π PG C (cd PG 4) = p4_0 π C := by
  funext fr σ k
  obtain ⟨slots, defers, esc, rc⟩ := fr
  unfold p4_0
  iterate 8 (refine dKs_eq fun _ _ h => ?_; subst h)
  refine dK0_eq ?_
  refine dN_eq fun h => ?_; subst h
  try rw [← p4_2_eq π C]
  try rw [← p4_1_eq π C]
  refine sk_eq (.seq (.run (sA (cd PG 4))) (.seq (.run (sA (sB (cd PG 4)))) (.seq (.seq (.run (sA (sA (sB (sB (cd PG 4)))))) (.block 0 (.loopH (lK (bK (sB (sA (sB (sB (cd PG 4)))))))))) (.hole (sB (sB (sB (cd PG 4)))))))) (by kernel_rfl) ?_
  generalize execG π PG C = H
  kernel_rfl
-- 26 ravelin/ravelinlaw05 Right
noncomputable def p26_1 {α : Type} (π : Prims α) (C : CallF α) (fr : Fr) (σ : St) (k : Ex → Fr → St → Option α) : Option α :=
  (fun no => (dK 1 fr.slots no fun r1 => (dB r1 no fun t1 r2 => (dB r2 no fun t2 r3 => (dK 25 r3 no fun r28 => (dN fr.esc 0 no (π.part true t1 0 9 fun x0 => (π.put t2 0 9 x0 fun c1 => (updS fr [(2, .box c1), (24, .val x0)] fun fr2 => (k .ret fr2 σ)))))))))) (execG π PG C (sB (sB (sB (sB (sB (sB (cd PG 26))))))) fr σ k)
theorem p26_1_eq {α : Type} (π : Prims α) (C : CallF α) : execG π PG C (sB (sB (sB (sB (sB (sB (cd PG 26))))))) = p26_1 π C := by
  funext fr σ k
  obtain ⟨slots, defers, esc, rc⟩ := fr
  unfold p26_1
  iterate 1 (refine dKs_eq fun _ _ h => ?_; subst h)
  refine dK0_eq ?_
  iterate 2 (refine dB_eq fun _ _ h => ?_; subst h)
  iterate 25 (refine dKs_eq fun _ _ h => ?_; subst h)
  refine dK0_eq ?_
  refine dN_eq fun h => ?_; subst h
  refine sk_eq (.seq (.run (sA (sB (sB (sB (sB (sB (sB (cd PG 26))))))))) (.run (sB (sB (sB (sB (sB (sB (sB (cd PG 26)))))))))) (by kernel_rfl) ?_
  generalize execG π PG C = H
  kernel_rfl
noncomputable def p26_0 {α : Type} (π : Prims α) (C : CallF α) (fr : Fr) (σ : St) (k : Ex → Fr → St → Option α) : Option α :=
  (fun no => (dV fr.slots no fun t0 r1 => (dK 26 r1 no fun r27 => (dN fr.esc 0 no (dataF t0 1 fun _ => (nbS fr 1 (AVal.cells t0) fun fr0 => (nbS fr0 2 zl24 fun fr1 => (π.part true (AVal.cells t0) 0 9 fun x2 => (C 61 [x2] σ (fun x3 σ4 => (π.put (AVal.cells t0) 0 9 x3 fun c5 => (π.part false c5 1 1 fun x6 => (C 57 [x6, (.int .i64 (Int.ofNat 65536))] σ4 (fun x7 σ8 => (π.put c5 1 1 x7 fun c9 => (π.part false c9 2 1 fun x10 => (C 57 [x10, (.int .i64 (Int.ofNat 262144))] σ8 (fun x11 σ12 => (π.put c9 2 1 x11 fun c13 => (π.part false c13 3 1 fun x14 => (C 57 [x14, (.int .i64 (Int.ofNat 2))] σ12 (fun x15 σ16 => (π.put c13 3 1 x15 fun c17 => (π.part false c17 7 1 fun x18 => (π.cond x18 (fun _ => (π.part false c17 5 1 fun x19 => (π.bin PG .andNot 3 true x19 (.int .i64 (Int.ofNat 7)) fun x20 => (π.put c17 5 1 x20 fun c21 => (π.part false c21 6 1 fun x22 => (π.bin PG .andNot 3 true x22 (.int .i64 (Int.ofNat 7)) fun x23 => (π.put c21 6 1 x23 fun c24 => (updS fr1 [(1, .box c24), (1, .val x2), (0, .val x3), (0, .ref 1 1), (0, .val x6), (0, .val x7), (0, .ref 1 1), (0, .ref 1 2), (0, .val x10), (0, .val x11), (0, .ref 1 2), (0, .ref 1 3), (0, .val x14), (0, .val x15), (0, .ref 1 3), (0, .ref 1 7), (0, .val x18), (0, .ref 1 5), (0, .val x19), (0, .val x20), (0, .ref 1 5), (0, .ref 1 6), (0, .val x22), (0, .val x23), (0, .ref 1 6)] fun fr25 => (p26_1 π C fr25 σ16 k))))))))) (fun _ => (updS fr1 [(1, .box c17), (1, .val x2), (0, .val x3), (0, .ref 1 1), (0, .val x6), (0, .val x7), (0, .ref 1 1), (0, .ref 1 2), (0, .val x10), (0, .val x11), (0, .ref 1 2), (0, .ref 1 3), (0, .val x14), (0, .val x15), (0, .ref 1 3), (0, .ref 1 7), (0, .val x18)] fun fr26 => (p26_1 π C fr26 σ16 k))))))) (fun x27 σ28 => (updS fr1 [(1, .box c13), (1, .val x2), (0, .val x3), (0, .ref 1 1), (0, .val x6), (0, .val x7), (0, .ref 1 1), (0, .ref 1 2), (0, .val x10), (0, .val x11), (0, .ref 1 2), (0, .ref 1 3), (0, .val x14)] fun fr29 => (k (.panic x27) fr29 σ28))))))) (fun x30 σ31 => (updS fr1 [(1, .box c9), (1, .val x2), (0, .val x3), (0, .ref 1 1), (0, .val x6), (0, .val x7), (0, .ref 1 1), (0, .ref 1 2), (0, .val x10)] fun fr32 => (k (.panic x30) fr32 σ31))))))) (fun x33 σ34 => (updS fr1 [(1, .box c5), (1, .val x2), (0, .val x3), (0, .ref 1 1), (0, .val x6)] fun fr35 => (k (.panic x33) fr35 σ34))))))) (fun x36 σ37 => (updS fr1 [(3, .val x2)] fun fr38 => (k (.panic x36) fr38 σ37)))))))))))) (execG π PG C (cd PG 26) fr σ k)
theorem p26_0_eq {α : Type} (π : Prims α) (C : CallF α) : execG π PG C (cd PG 26) = p26_0 π C := by
  funext fr σ k
  obtain ⟨slots, defers, esc, rc⟩ := fr
  unfold p26_0
  refine dV_eq fun _ _ h => ?_; subst h
  iterate 26 (refine dKs_eq fun _ _ h => ?_; subst h)
  refine dK0_eq ?_
  refine dN_eq fun h => ?_; subst h
  try rw [← p26_1_eq π C]
  refine sk_eq (.seq (.run (sA (cd PG 26))) (.seq (.run (sA (sB (cd PG 26)))) (.seq (.run (sA (sB (sB (cd PG 26))))) (.seq (.run (sA (sB (sB (sB (cd PG 26)))))) (.seq (.run (sA (sB (sB (sB (sB (cd PG 26))))))) (.seq (.seq (.run (sA (sA (sB (sB (sB (sB (sB (cd PG 26))))))))) (.cond (cX (sB (sA (sB (sB (sB (sB (sB (cd PG 26))))))))) (.seq (.run (sA (cA (sB (sA (sB (sB (sB (sB (sB (cd PG 26))))))))))) (.run (sB (cA (sB (sA (sB (sB (sB (sB (sB (cd PG 26)))))))))))) (.run (cB (sB (sA (sB (sB (sB (sB (sB (cd PG 26)))))))))))) (.hole (sB (sB (sB (sB (sB (sB (cd PG 26)))))))))))))) (by kernel_rfl) ?_
  generalize execG π PG C = H
  kernel_rfl
-- 46 ravelin/xcap Do
noncomputable def p46_0 {α : Type} (π : Prims α) (C : CallF α) (fr : Fr) (σ : St) (k : Ex → Fr → St → Option α) : Option α :=
  (fun no => (dV fr.slots no fun t0 r1 => (dV r1 no fun t1 r2 => (dK 31 r2 no fun r33 => (dN fr.esc 0 no (dataF t1 3 fun _ => (nbS fr 3 (AVal.cells t1) fun fr0 => (nbS fr0 4 zl60 fun fr1 => (π.part false (AVal.cells t1) 0 1 fun x2 => (π.bin PG .eql 3 true x2 (.int .i64 (Int.ofNat 27)) fun x3 => (π.cond x3 (fun _ => (π.part true (AVal.cells t1) 0 11 fun x4 => (C 76 [t0, x4] σ (fun x5 σ6 => (π.put zl60 0 3 x5 fun c7 => (updS fr1 [(4, .box c7), (0, .val (.bool true)), (2, .ref 3 0), (0, .val x2), (0, .val x3), (0, .val t0), (0, .val x4), (0, .val x5)] fun fr8 => (k .ret fr8 σ6)))) (fun x9 σ10 => (updS fr1 [(5, .val (.bool false)), (2, .ref 3 0), (0, .val x2), (0, .val x3), (0, .val t0), (0, .val x4)] fun fr11 => (k (.panic x9) fr11 σ10)))))) (fun _ => (π.part true (AVal.cells t1) 0 11 fun x12 => (C 77 [t0, x12] σ (fun x13 σ14 => (π.extract x13 0 fun x15 => (π.extract x13 1 fun x16 => (updS fr1 [(5, .val (.bool false)), (2, .ref 3 0), (0, .val x2), (0, .val x3), (3, .val x13), (0, .val t0), (0, .val x12), (0, .val x13), (0, .val x15), (0, .val x16)] fun fr17 => (nbS fr17 6 zl24 fun fr18 => (π.put zl24 0 9 x15 fun c19 => (π.un .not x16 fun x20 => (π.cond x20 (fun _ => (π.put zl60 0 3 (.agg zl60) fun c21 => (updS fr18 [(4, .box c21), (0, .val (.bool false)), (0, .box c19), (0, .val x16), (12, .val x16), (0, .val x20), (0, .val (.agg zl60))] fun fr22 => (k .ret fr22 σ14)))) (fun _ => (π.part false (AVal.cells t1) 2 1 fun x23 => (π.part true c19 0 9 fun x24 => (C 78 [t0, x23, x24] σ14 (fun x25 σ26 => (π.part false (AVal.cells t1) 9 1 fun x27 => (C 79 [t0, x27] σ26 (fun x28 σ29 => (π.put zl60 0 3 (.agg zl60) fun c30 => (updS fr18 [(4, .box c30), (0, .val (.bool true)), (0, .box c19), (0, .val x16), (12, .val x16), (0, .val x20), (1, .val t0), (0, .ref 3 2), (0, .val x23), (0, .val x24), (0, .val x25), (0, .val t0), (0, .ref 3 9), (0, .val x27), (0, .val x28), (0, .val (.agg zl60))] fun fr31 => (k .ret fr31 σ29)))) (fun x32 σ33 => (updS fr18 [(6, .box c19), (0, .val x16), (12, .val x16), (0, .val x20), (1, .val t0), (0, .ref 3 2), (0, .val x23), (0, .val x24), (0, .val x25), (0, .val t0), (0, .ref 3 9), (0, .val x27)] fun fr34 => (k (.panic x32) fr34 σ33)))))) (fun x35 σ36 => (updS fr18 [(6, .box c19), (0, .val x16), (12, .val x16), (0, .val x20), (1, .val t0), (0, .ref 3 2), (0, .val x23), (0, .val x24)] fun fr37 => (k (.panic x35) fr37 σ36))))))))))))))) (fun x38 σ39 => (updS fr1 [(5, .val (.bool false)), (2, .ref 3 0), (0, .val x2), (0, .val x3), (4, .val t0), (0, .val x12)] fun fr40 => (k (.panic x38) fr40 σ39))))))))))))))))) (execG π PG C (cd PG 46) fr σ k)
theorem p46_0_eq {α : Type} (π : Prims α) (C : CallF α) : execG π PG C (cd PG 46) = p46_0 π C := by
  funext fr σ k
  obtain ⟨slots, defers, esc, rc⟩ := fr
  unfold p46_0
  iterate 2 (refine dV_eq fun _ _ h => ?_; subst h)
  iterate 31 (refine dKs_eq fun _ _ h => ?_; subst h)
  refine dK0_eq ?_
  refine dN_eq fun h => ?_; subst h
  refine sk_eq (.seq (.run (sA (cd PG 46))) (.seq (.seq (.run (sA (sA (sB (cd PG 46))))) (.cond (cX (sB (sA (sB (cd PG 46))))) (.seq (.run (sA (cA (sB (sA (sB (cd PG 46))))))) (.run (sB (cA (sB (sA (sB (cd PG 46)))))))) (.run (cB (sB (sA (sB (cd PG 46)))))))) (.seq (.run (sA (sB (sB (cd PG 46))))) (.seq (.seq (.run (sA (sA (sB (sB (sB (cd PG 46))))))) (.cond (cX (sB (sA (sB (sB (sB (cd PG 46))))))) (.seq (.run (sA (cA (sB (sA (sB (sB (sB (cd PG 46))))))))) (.run (sB (cA (sB (sA (sB (sB (sB (cd PG 46)))))))))) (.run (cB (sB (sA (sB (sB (sB (cd PG 46)))))))))) (.seq (.run (sA (sB (sB (sB (sB (cd PG 46))))))) (.seq (.run (sA (sB (sB (sB (sB (sB (cd PG 46)))))))) (.seq (.run (sA (sB (sB (sB (sB (sB (sB (cd PG 46))))))))) (.run (sB (sB (sB (sB (sB (sB (sB (cd PG 46)))))))))))))))) (by kernel_rfl) ?_
  generalize execG π PG C = H
  kernel_rfl
-- 108 ravelin/bounds In
noncomputable def p108_0 {α : Type} (π : Prims α) (C : CallF α) (fr : Fr) (σ : St) (k : Ex → Fr → St → Option α) : Option α :=
  (fun no => (dV fr.slots no fun t0 r1 => (dV r1 no fun t1 r2 => (dV r2 no fun t2 r3 => (dK 4 r3 no fun r7 => (dV r7 no fun t7 r8 => (dV r8 no fun t8 r9 => (dV r9 no fun t9 r10 => (dV r10 no fun t10 r11 => (dV r11 no fun t11 r12 => (dV r12 no fun t12 r13 => (dV r13 no fun t13 r14 => (dV r14 no fun t14 r15 => (dV r15 no fun t15 r16 => (dV r16 no fun t16 r17 => (dV r17 no fun t17 r18 => (dV r18 no fun t18 r19 => (dV r19 no fun t19 r20 => (dV r20 no fun t20 r21 => (dV r21 no fun t21 r22 => (dV r22 no fun t22 r23 => (dV r23 no fun t23 r24 => (dV r24 no fun t24 r25 => (dV r25 no fun t25 r26 => (dV r26 no fun t26 r27 => (dN fr.esc 0 no (dataF t0 3 fun _ => (nbS fr 3 (AVal.cells t0) fun fr0 => (π.bin PG .geq 3 true t2 (.int .i64 (Int.ofNat 0)) fun x1 => (gdF x1 (fun _ => (π.part false (AVal.cells t0) 0 1 fun x2 => (π.bin PG .geq 22 false t1 x2 fun x3 => (gdF x3 (fun _ => (π.put zl287 1 1 t1 fun c4 => (π.conv PG 3 22 t2 fun x5 => (π.put zl287 1 1 x5 fun c6 => ((lockCall true C) 169 [(.agg c4), (.agg c6)] σ (fun x7 σ8 => (π.part true (AVal.cells t0) 0 3 fun x9 => ((lockCall false C) 171 [x9] σ8 (fun x10 σ11 => ((lockCall false C) 170 [x7, x10] σ11 (fun x12 σ13 => (π.un .not x12 fun x14 => (updS fr0 [(6, .val x14), (0, .val t2), (0, .val x1), (0, .val (.bool true)), (0, .val t1), (0, .ref 3 0), (0, .val x2), (0, .val x3), (0, .val x3), (0, .val (.bool true)), (0, .val t1), (0, .val (.agg c4)), (0, .val t2), (0, .val x5), (0, .val (.agg c6)), (0, .val x7), (0, .val x9), (0, .val x10), (0, .val x12), (0, .val x14), (0, .val x14)] fun fr15 => (k .ret fr15 σ13)))) (fun x16 σ17 => none))) (fun x18 σ19 => none)))) (fun x20 σ21 => none)))))) (fun _ => (updS fr0 [(6, .val (.bool false)), (0, .val t2), (0, .val x1), (0, .val (.bool true)), (0, .val t1), (0, .ref 3 0), (0, .val x2), (0, .val x3), (0, .val x3), (0, .val (.bool false)), (0, .val (.tuple [])), (0, .val (.tuple [])), (0, .val (.tuple [])), (0, .val (.tuple [])), (0, .val (.tuple [])), (0, .val (.tuple [])), (0, .val (.tuple [])), (0, .val (.tuple [])), (0, .val (.tuple [])), (0, .val (.tuple [])), (0, .val (.bool false))] fun fr22 => (k .ret fr22 σ))) (fun _ => none))))) (fun _ => (updS fr0 [(6, .val (.bool false)), (0, .val t2), (0, .val x1), (0, .val (.bool false)), (0, .val (.tuple [])), (0, .val (.tuple [])), (0, .val (.tuple [])), (0, .val (.tuple [])), (0, .val (.bool false)), (0, .val (.bool false)), (0, .val (.tuple [])), (0, .val (.tuple [])), (0, .val (.tuple [])), (0, .val (.tuple [])), (0, .val (.tuple [])), (0, .val (.tuple [])), (0, .val (.tuple [])), (0, .val (.tuple [])), (0, .val (.tuple [])), (0, .val (.tuple [])), (0, .val (.bool false))] fun fr23 => (k .ret fr23 σ))) (fun _ => none))))))))))))))))))))))))))))))) (execG π PG C (cd PG 108) fr σ k)
theorem p108_0_eq {α : Type} (π : Prims α) (C : CallF α) : execG π PG C (cd PG 108) = p108_0 π C := by
  funext fr σ k
  obtain ⟨slots, defers, esc, rc⟩ := fr
  unfold p108_0
  iterate 3 (refine dV_eq fun _ _ h => ?_; subst h)
  iterate 4 (refine dKs_eq fun _ _ h => ?_; subst h)
  refine dK0_eq ?_
  iterate 20 (refine dV_eq fun _ _ h => ?_; subst h)
  refine dN_eq fun h => ?_; subst h
  refine sk_eq (.seq (.run (sA (cd PG 108))) (.seq (.run (sA (sB (cd PG 108)))) (.run (sB (sB (cd PG 108)))))) (by kernel_rfl) ?_
  generalize execG π PG C = H
  kernel_rfl
-- 40 ravelin/check Fetch
noncomputable def p40_0 {α : Type} (π : Prims α) (C : CallF α) (fr : Fr) (σ : St) (k : Ex → Fr → St → Option α) : Option α :=
  (fun no => (dV fr.slots no fun t0 r1 => (dV r1 no fun t1 r2 => (dK 3 r2 no fun r5 => (dV r5 no fun t5 r6 => (dV r6 no fun t6 r7 => (dV r7 no fun t7 r8 => (dV r8 no fun t8 r9 => (dV r9 no fun t9 r10 => (dV r10 no fun t10 r11 => (dV r11 no fun t11 r12 => (dV r12 no fun t12 r13 => (dV r13 no fun t13 r14 => (dV r14 no fun t14 r15 => (dV r15 no fun t15 r16 => (dV r16 no fun t16 r17 => (dV r17 no fun t17 r18 => (dV r18 no fun t18 r19 => (dV r19 no fun t19 r20 => (dV r20 no fun t20 r21 => (dV r21 no fun t21 r22 => (dN fr.esc 0 no (dataF t0 2 fun _ => (nbS fr 2 (AVal.cells t0) fun fr0 => (nbS fr0 4 zl60 fun fr1 => (π.part false (AVal.cells t0) 0 1 fun x2 => (π.un .not x2 fun x3 => (π.put zl164 0 1 x3 fun c4 => (π.put c4 1 1 (.int .i64 (Int.ofNat 2)) fun c5 => (π.part false (AVal.cells t0) 2 1 fun x6 => (π.bin PG .neq 3 true x6 (.int .i64 (Int.ofNat 262143)) fun x7 => (π.put zl164 0 1 x7 fun c8 => (π.put c8 1 1 (.int .i64 (Int.ofNat 3)) fun c9 => (π.part true (AVal.cells t0) 0 9 fun x10 => ((lockCall true C) 69 [x10, (.int .i64 (Int.ofNat 2)), (.int .i64 (Int.ofNat 17))] σ (fun x11 σ12 => (π.part true (AVal.cells t0) 0 9 fun x13 => (π.part false (AVal.cells t0) 8 1 fun x14 => ((lockCall true C) 70 [x13, x14, t1] σ12 (fun x15 σ16 => (π.put [(.bool false), (.int .i64 (Int.ofNat 0)), (.bool false), (.int .i64 (Int.ofNat 0)), (.bool false), (.int .i64 (Int.ofNat 0)), (.bool false), (.int .i64 (Int.ofNat 0))] 0 2 (.agg c5) fun c17 => (π.put c17 2 2 (.agg c9) fun c18 => (π.put c18 4 2 x11 fun c19 => (π.put c19 6 2 x15 fun c20 => (π.newSl σ16 2 c20 4 fun x22 σ21 => ((lockCall false C) 68 [(.int .i64 (Int.ofNat 32)), x22] σ21 (fun x23 σ24 => (π.put zl60 0 3 x23 fun c25 => (updS fr1 [(4, .box c25), (0, .ref 2 0), (0, .val x2), (0, .val x3), (0, .val (.agg c5)), (0, .ref 2 2), (0, .val x6), (0, .val x7), (0, .val (.agg c9)), (0, .val x10), (0, .val x11), (0, .val x13), (0, .ref 2 8), (0, .val x14), (0, .val t1), (0, .val x15), (0, .val x22), (0, .val x23)] fun fr26 => (k .ret fr26 σ24)))) (fun x27 σ28 => none)))))))) (fun x29 σ30 => none))))) (fun x31 σ32 => none)))))))))))))))))))))))))))))))))))) (execG π PG C (cd PG 40) fr σ k)
theorem p40_0_eq {α : Type} (π : Prims α) (C : CallF α) : execG π PG C (cd PG 40) = p40_0 π C := by
  funext fr σ k
  obtain ⟨slots, defers, esc, rc⟩ := fr
  unfold p40_0
  iterate 2 (refine dV_eq fun _ _ h => ?_; subst h)
  iterate 3 (refine dKs_eq fun _ _ h => ?_; subst h)
  refine dK0_eq ?_
  iterate 17 (refine dV_eq fun _ _ h => ?_; subst h)
  refine dN_eq fun h => ?_; subst h
  refine sk_eq (.seq (.run (sA (cd PG 40))) (.seq (.run (sA (sB (cd PG 40)))) (.run (sB (sB (cd PG 40)))))) (by kernel_rfl) ?_
  generalize execG π PG C = H
  kernel_rfl
-- 75 (ravelin/xint doing) classes
noncomputable def p75_0 {α : Type} (π : Prims α) (C : CallF α) (fr : Fr) (σ : St) (k : Ex → Fr → St → Option α) : Option α :=
  (fun no => (dV fr.slots no fun t0 r1 => (dK 21 r1 no fun r22 => (dN fr.esc 2 no (dataF t0 1 fun _ => π.alloc σ (.cells 0 (AVal.cells t0)) fun x0 σ1 => (newMapF π σ1 fun n2 σ3 => (π.ld σ3 true 12 x0 fun x4 => (π.mapSet PG σ3 173 (.map (some n2)) (.int .i64 (Int.ofNat 1)) (.func (.func 111) [x4] []) fun σ5 => (π.ld σ5 true 12 x0 fun x6 => (π.mapSet PG σ5 173 (.map (some n2)) (.int .i64 (Int.ofNat 2)) (.func (.func 112) [x6] []) fun σ7 => (π.ld σ7 true 12 x0 fun x8 => (π.mapSet PG σ7 173 (.map (some n2)) (.int .i64 (Int.ofNat 8)) (.func (.func 113) [x8] []) fun σ9 => (π.ld σ9 true 12 x0 fun x10 => (π.mapSet PG σ9 173 (.map (some n2)) (.int .i64 (Int.ofNat 9)) (.func (.func 113) [x10] []) fun σ11 => (π.ld σ11 true 12 x0 fun x12 => (π.mapSet PG σ11 173 (.map (some n2)) (.int .i64 (Int.ofNat 10)) (.func (.func 113) [x12] []) fun σ13 => (π.ld σ13 true 12 x0 fun x14 => (π.mapSet PG σ13 173 (.map (some n2)) (.int .i64 (Int.ofNat 5)) (.func (.func 114) [x14] []) fun σ15 => (π.ld σ15 true 12 x0 fun x16 => (π.mapSet PG σ15 173 (.map (some n2)) (.int .i64 (Int.ofNat 3)) (.func (.func 115) [x16] []) fun σ17 => (π.ld σ17 true 12 x0 fun x18 => (π.mapSet PG σ17 173 (.map (some n2)) (.int .i64 (Int.ofNat 4)) (.func (.func 116) [x18] []) fun σ19 => (π.mapSet PG σ19 173 (.map (some n2)) (.int .i64 (Int.ofNat 26)) (.func (.func 117) [] [x0]) fun σ20 => (updS fr [(1, .val x0), (0, .val (.map (some n2))), (0, .val (.map (some n2))), (0, .val x4), (0, .val (.func (.func 111) [x4] [])), (0, .val x6), (0, .val (.func (.func 112) [x6] [])), (0, .val x8), (0, .val (.func (.func 113) [x8] [])), (0, .val x10), (0, .val (.func (.func 113) [x10] [])), (0, .val x12), (0, .val (.func (.func 113) [x12] [])), (0, .val x14), (0, .val (.func (.func 114) [x14] [])), (0, .val x16), (0, .val (.func (.func 115) [x16] [])), (0, .val x18), (0, .val (.func (.func 116) [x18] [])), (0, .val (.func (.func 117) [] [x0])), (0, .val (.map (some n2)))] fun fr21 => (k .ret fr21 σ20))))))))))))))))))))))))) (execG π PG C (cd PG 75) fr σ k)
theorem p75_0_eq {α : Type} (π : Prims α) (C : CallF α) : execG π PG C (cd PG 75) = p75_0 π C := by
  funext fr σ k
  obtain ⟨slots, defers, esc, rc⟩ := fr
  unfold p75_0
  refine dV_eq fun _ _ h => ?_; subst h
  iterate 21 (refine dKs_eq fun _ _ h => ?_; subst h)
  refine dK0_eq ?_
  refine dN_eq fun h => ?_; subst h
  refine sk_eq (.seq (.run (sA (cd PG 75))) (.seq (.run (sA (sB (cd PG 75)))) (.run (sB (sB (cd PG 75)))))) (by kernel_rfl) ?_
  generalize execG π PG C = H
  kernel_rfl
-- 90 ravelin/base opcodes
noncomputable def p90_0 {α : Type} (π : Prims α) (C : CallF α) (fr : Fr) (σ : St) (k : Ex → Fr → St → Option α) : Option α :=
  (fun no => (dK 3 fr.slots no fun r3 => (dN fr.esc 0 no (newMapF π σ fun n0 σ1 => (π.mapSet PG σ1 195 (.map (some n0)) (.int .i64 (Int.ofNat 55)) (.func (.func 143) [] []) fun σ2 => (π.mapSet PG σ2 195 (.map (some n0)) (.int .i64 (Int.ofNat 23)) (.func (.func 146) [] []) fun σ3 => (π.mapSet PG σ3 195 (.map (some n0)) (.int .i64 (Int.ofNat 111)) (.func (.func 147) [] []) fun σ4 => (π.mapSet PG σ4 195 (.map (some n0)) (.int .i64 (Int.ofNat 103)) (.func (.func 149) [] []) fun σ5 => (π.mapSet PG σ5 195 (.map (some n0)) (.int .i64 (Int.ofNat 99)) (.func (.func 150) [] []) fun σ6 => (π.mapSet PG σ6 195 (.map (some n0)) (.int .i64 (Int.ofNat 3)) (.func (.func 151) [] []) fun σ7 => (π.mapSet PG σ7 195 (.map (some n0)) (.int .i64 (Int.ofNat 35)) (.func (.func 152) [] []) fun σ8 => (π.mapSet PG σ8 195 (.map (some n0)) (.int .i64 (Int.ofNat 19)) (.func (.func 153) [] []) fun σ9 => (π.mapSet PG σ9 195 (.map (some n0)) (.int .i64 (Int.ofNat 27)) (.func (.func 155) [] []) fun σ10 => (π.mapSet PG σ10 195 (.map (some n0)) (.int .i64 (Int.ofNat 51)) (.func (.func 156) [] []) fun σ11 => (π.mapSet PG σ11 195 (.map (some n0)) (.int .i64 (Int.ofNat 59)) (.func (.func 158) [] []) fun σ12 => (π.mapSet PG σ12 195 (.map (some n0)) (.int .i64 (Int.ofNat 15)) (.func (.func 159) [] []) fun σ13 => (π.mapSet PG σ13 195 (.map (some n0)) (.int .i64 (Int.ofNat 115)) (.func (.func 160) [] []) fun σ14 => (π.mapSet PG σ14 195 (.map (some n0)) (.int .i64 (Int.ofNat 47)) (.func (.func 161) [] []) fun σ15 => (updS fr [(0, .val (.map (some n0))), (0, .val (.map (some n0))), (0, .val (.map (some n0)))] fun fr16 => (k .ret fr16 σ15)))))))))))))))))))) (execG π PG C (cd PG 90) fr σ k)
theorem p90_0_eq {α : Type} (π : Prims α) (C : CallF α) : execG π PG C (cd PG 90) = p90_0 π C := by
  funext fr σ k
  obtain ⟨slots, defers, esc, rc⟩ := fr
  unfold p90_0
  iterate 3 (refine dKs_eq fun _ _ h => ?_; subst h)
  refine dK0_eq ?_
  refine dN_eq fun h => ?_; subst h
  refine sk_eq (.seq (.run (sA (cd PG 90))) (.seq (.run (sA (sB (cd PG 90)))) (.run (sB (sB (cd PG 90)))))) (by kernel_rfl) ?_
  generalize execG π PG C = H
  kernel_rfl
-- 66 ravelin/bounds Fits
noncomputable def p66_0 {α : Type} (π : Prims α) (C : CallF α) (fr : Fr) (σ : St) (k : Ex → Fr → St → Option α) : Option α :=
  (fun no => (dV fr.slots no fun t0 r1 => (dV r1 no fun t1 r2 => (dK 8 r2 no fun r10 => (dV r10 no fun t10 r11 => (dV r11 no fun t11 r12 => (dV r12 no fun t12 r13 => (dV r13 no fun t13 r14 => (dN fr.esc 0 no (dataF t0 2 fun _ => (nbS fr 2 (AVal.cells t0) fun fr0 => (π.part true (AVal.cells t0) 0 9 fun x1 => (C 106 [x1] σ (fun x2 σ3 => (updS fr0 [(4, .val (.bool false)), (1, .val x1), (0, .val x2)] fun fr4 => (nbS fr4 5 zl219 fun fr5 => (π.put zl219 0 3 x2 fun c6 => (π.put (AVal.cells t0) 8 1 t1 fun c7 => (π.part true c7 0 9 fun x8 => ((lockCall true C) 106 [x8] σ3 (fun x9 σ10 => (π.part true c6 0 3 fun x11 => (π.bin PG .eql 219 false x9 x11 fun x12 => (updS fr5 [(2, .box c7), (1, .val x12), (0, .box c6), (2, .val t1), (0, .ref 2 8), (0, .val x8), (0, .val x9), (0, .val x11), (0, .val x12)] fun fr13 => (k .ret fr13 σ10))))) (fun x14 σ15 => none)))))))) (fun x16 σ17 => (updS fr0 [(4, .val (.bool false)), (1, .val x1)] fun fr18 => (k (.panic x16) fr18 σ17)))))))))))))))) (execG π PG C (cd PG 66) fr σ k)
theorem p66_0_eq {α : Type} (π : Prims α) (C : CallF α) : execG π PG C (cd PG 66) = p66_0 π C := by
  funext fr σ k
  obtain ⟨slots, defers, esc, rc⟩ := fr
  unfold p66_0
  iterate 2 (refine dV_eq fun _ _ h => ?_; subst h)
  iterate 8 (refine dKs_eq fun _ _ h => ?_; subst h)
  refine dK0_eq ?_
  iterate 4 (refine dV_eq fun _ _ h => ?_; subst h)
  refine dN_eq fun h => ?_; subst h
  refine sk_eq (.seq (.run (sA (cd PG 66))) (.seq (.run (sA (sB (cd PG 66)))) (.seq (.run (sA (sB (sB (cd PG 66))))) (.seq (.run (sA (sB (sB (sB (cd PG 66)))))) (.run (sB (sB (sB (sB (cd PG 66)))))))))) (by kernel_rfl) ?_
  generalize execG π PG C = H
  kernel_rfl
-- 318 ravelin/rvc typeI
noncomputable def p318_0 {α : Type} (π : Prims α) (C : CallF α) (fr : Fr) (σ : St) (k : Ex → Fr → St → Option α) : Option α :=
  (fun no => (dV fr.slots no fun t0 r1 => (dV r1 no fun t1 r2 => (dV r2 no fun t2 r3 => (dV r3 no fun t3 r4 => (dV r4 no fun t4 r5 => (dK 21 r5 no fun r26 => (dN fr.esc 0 no (π.bin PG .and 3 true t4 (.int .i64 (Int.ofNat 4095)) fun x0 => (π.bin PG .shl 3 true x0 (.int .u64 (Int.ofNat 20)) fun x1 => (π.bin PG .shl 3 true t3 (.int .u64 (Int.ofNat 15)) fun x2 => (π.bin PG .or 3 false x1 x2 fun x3 => (π.bin PG .shl 3 true t1 (.int .u64 (Int.ofNat 12)) fun x4 => (π.bin PG .or 3 false x3 x4 fun x5 => (π.bin PG .shl 3 true t2 (.int .u64 (Int.ofNat 7)) fun x6 => (π.bin PG .or 3 false x5 x6 fun x7 => (π.bin PG .or 3 false x7 t0 fun x8 => (π.conv PG 3 32 x8 fun x9 => (updS fr [(10, .val x9), (0, .val t4), (0, .val x0), (0, .val x1), (0, .val t3), (0, .val x2), (0, .val x3), (0, .val t1), (0, .val x4), (0, .val x5), (0, .val t2), (0, .val x6), (0, .val x7), (0, .val t0), (0, .val x8), (0, .val x9)] fun fr10 => (k .ret fr10 σ)))))))))))))))))))) (execG π PG C (cd PG 318) fr σ k)
theorem p318_0_eq {α : Type} (π : Prims α) (C : CallF α) : execG π PG C (cd PG 318) = p318_0 π C := by
  funext fr σ k
  obtain ⟨slots, defers, esc, rc⟩ := fr
  unfold p318_0
  iterate 5 (refine dV_eq fun _ _ h => ?_; subst h)
  iterate 21 (refine dKs_eq fun _ _ h => ?_; subst h)
  refine dK0_eq ?_
  refine dN_eq fun h => ?_; subst h
  refine sk_eq (.seq (.run (sA (cd PG 318))) (.seq (.run (sA (sB (cd PG 318)))) (.run (sB (sB (cd PG 318)))))) (by kernel_rfl) ?_
  generalize execG π PG C = H
  kernel_rfl
-- 171 ravelin/bounds top
noncomputable def p171_0 {α : Type} (π : Prims α) (C : CallF α) (fr : Fr) (σ : St) (k : Ex → Fr → St → Option α) : Option α :=
  (fun no => (dV fr.slots no fun t0 r1 => (dK 2 r1 no fun r3 => (dV r3 no fun t3 r4 => (dV r4 no fun t4 r5 => (dV r5 no fun t5 r6 => (dV r6 no fun t6 r7 => (dV r7 no fun t7 r8 => (dV r8 no fun t8 r9 => (dV r9 no fun t9 r10 => (dN fr.esc 0 no (dataF t0 1 fun _ => (nbS fr 1 (AVal.cells t0) fun fr0 => (nbS fr0 2 zl287 fun fr1 => (π.part false (AVal.cells t0) 2 1 fun x2 => ((lockCall true C) 165 [x2] σ (fun x3 σ4 => (π.conv PG 3 22 x3 fun x5 => (π.part false (AVal.cells t0) 1 1 fun x6 => (π.put zl287 0 1 x5 fun c7 => (π.put c7 1 1 x6 fun c8 => (π.put zl287 0 2 (.agg c8) fun c9 => (updS fr1 [(2, .box c9), (0, .ref 1 2), (0, .val x2), (0, .val x3), (0, .val x5), (0, .ref 1 1), (0, .val x6), (0, .val (.agg c8))] fun fr10 => (k .ret fr10 σ4)))))))) (fun x11 σ12 => none))))))))))))))))) (execG π PG C (cd PG 171) fr σ k)
theorem p171_0_eq {α : Type} (π : Prims α) (C : CallF α) : execG π PG C (cd PG 171) = p171_0 π C := by
  funext fr σ k
  obtain ⟨slots, defers, esc, rc⟩ := fr
  unfold p171_0
  refine dV_eq fun _ _ h => ?_; subst h
  iterate 2 (refine dKs_eq fun _ _ h => ?_; subst h)
  refine dK0_eq ?_
  iterate 7 (refine dV_eq fun _ _ h => ?_; subst h)
  refine dN_eq fun h => ?_; subst h
  refine sk_eq (.seq (.run (sA (cd PG 171))) (.seq (.run (sA (sB (cd PG 171)))) (.run (sB (sB (cd PG 171)))))) (by kernel_rfl) ?_
  generalize execG π PG C = H
  kernel_rfl
-- 180 (ravelin/xint doing) behind
noncomputable def p180_0 {α : Type} (π : Prims α) (C : CallF α) (fr : Fr) (σ : St) (k : Ex → Fr → St → Option α) : Option α :=
  (fun no => (dV fr.slots no fun t0 r1 => (dK 8 r1 no fun r9 => (dN fr.esc 0 no (dataF t0 1 fun _ => (nbS fr 1 (AVal.cells t0) fun fr0 => (nbS fr0 2 zl24 fun fr1 => (π.part true (AVal.cells t0) 0 12 fun x2 => (π.part false (AVal.cells t0) 10 1 fun x3 => (π.conv PG 3 22 x3 fun x4 => (C 181 [x2, x4] σ (fun x5 σ6 => (π.put zl24 0 9 x5 fun c7 => (updS fr1 [(2, .box c7), (0, .val x2), (0, .ref 1 1), (0, .ref 1 10), (0, .val x3), (0, .val x4), (0, .val x5)] fun fr8 => (k .ret fr8 σ6)))) (fun x9 σ10 => (updS fr1 [(3, .val x2), (0, .ref 1 1), (0, .ref 1 10), (0, .val x3), (0, .val x4)] fun fr11 => (k (.panic x9) fr11 σ10)))))))))))))) (execG π PG C (cd PG 180) fr σ k)
theorem p180_0_eq {α : Type} (π : Prims α) (C : CallF α) : execG π PG C (cd PG 180) = p180_0 π C := by
  funext fr σ k
  obtain ⟨slots, defers, esc, rc⟩ := fr
  unfold p180_0
  refine dV_eq fun _ _ h => ?_; subst h
  iterate 8 (refine dKs_eq fun _ _ h => ?_; subst h)
  refine dK0_eq ?_
  refine dN_eq fun h => ?_; subst h
  refine sk_eq (.seq (.run (sA (cd PG 180))) (.seq (.run (sA (sB (cd PG 180)))) (.run (sB (sB (cd PG 180)))))) (by kernel_rfl) ?_
  generalize execG π PG C = H
  kernel_rfl
-- 45 ravelin/hart do$2
noncomputable def p45_0 {α : Type} (π : Prims α) (C : CallF α) (fr : Fr) (σ : St) (k : Ex → Fr → St → Option α) : Option α :=
  (fun no => (dV fr.slots no fun t0 r1 => (dV r1 no fun t1 r2 => (dK 7 r2 no fun r9 => (dN fr.esc 0 no (nbS fr 2 zl60 fun fr0 => (π.ld σ false 1 t0 fun x1 => (π.ld σ true 11 t1 fun x2 => (C 46 [x1, x2] σ (fun x3 σ4 => (π.extract x3 0 fun x5 => (π.extract x3 1 fun x6 => (π.put zl60 0 3 x5 fun c7 => (updS fr0 [(2, .box c7), (0, .val x6), (0, .val x1), (0, .val x2), (0, .val x3), (0, .val x5), (0, .val x6)] fun fr8 => (k .ret fr8 σ4)))))) (fun x9 σ10 => (updS fr0 [(3, .val (.bool false)), (0, .val x1), (0, .val x2)] fun fr11 => (k (.panic x9) fr11 σ10)))))))))))) (execG π PG C (cd PG 45) fr σ k)
theorem p45_0_eq {α : Type} (π : Prims α) (C : CallF α) : execG π PG C (cd PG 45) = p45_0 π C := by
  funext fr σ k
  obtain ⟨slots, defers, esc, rc⟩ := fr
  unfold p45_0
  iterate 2 (refine dV_eq fun _ _ h => ?_; subst h)
  iterate 7 (refine dKs_eq fun _ _ h => ?_; subst h)
  refine dK0_eq ?_
  refine dN_eq fun h => ?_; subst h
  refine sk_eq (.seq (.run (sA (cd PG 45))) (.seq (.run (sA (sB (cd PG 45)))) (.run (sB (sB (cd PG 45)))))) (by kernel_rfl) ?_
  generalize execG π PG C = H
  kernel_rfl
-- 165 ravelin/bounds truth
noncomputable def p165_0 {α : Type} (π : Prims α) (C : CallF α) (fr : Fr) (σ : St) (k : Ex → Fr → St → Option α) : Option α :=
  (fun no => (dV fr.slots no fun t0 r1 => (dK 3 r1 no fun r4 => (dN fr.esc 0 no (π.cond t0 (fun _ => (updS fr [(2, .val (.int .i64 (Int.ofNat 1))), (0, .val t0)] fun fr0 => (k .ret fr0 σ))) (fun _ => (updS fr [(2, .val (.int .i64 (Int.ofNat 0))), (0, .val t0)] fun fr1 => (k .ret fr1 σ)))))))) (execG π PG C (cd PG 165) fr σ k)
theorem p165_0_eq {α : Type} (π : Prims α) (C : CallF α) : execG π PG C (cd PG 165) = p165_0 π C := by
  funext fr σ k
  obtain ⟨slots, defers, esc, rc⟩ := fr
  unfold p165_0
  refine dV_eq fun _ _ h => ?_; subst h
  iterate 3 (refine dKs_eq fun _ _ h => ?_; subst h)
  refine dK0_eq ?_
  refine dN_eq fun h => ?_; subst h
  refine sk_eq (.seq (.run (sA (cd PG 165))) (.seq (.seq (.run (sA (sA (sB (cd PG 165))))) (.cond (cX (sB (sA (sB (cd PG 165))))) (.seq (.run (sA (cA (sB (sA (sB (cd PG 165))))))) (.run (sB (cA (sB (sA (sB (cd PG 165)))))))) (.run (cB (sB (sA (sB (cd PG 165)))))))) (.seq (.run (sA (sB (sB (cd PG 165))))) (.run (sB (sB (sB (cd PG 165)))))))) (by kernel_rfl) ?_
  generalize execG π PG C = H
  kernel_rfl
-- 27 ravelin/ravelinref04 Number
noncomputable def p27_0 {α : Type} (π : Prims α) (C : CallF α) (fr : Fr) (σ : St) (k : Ex → Fr → St → Option α) : Option α :=
  (fun no => (dV fr.slots no fun t0 r1 => (dK 4 r1 no fun r5 => (dN fr.esc 0 no (nbS fr 2 zl24 fun fr0 => (π.put zl24 2 1 (.int .i64 (Int.ofNat 262143)) fun c1 => (π.put c1 4 1 (.int .i64 (Int.ofNat 52)) fun c2 => (π.put c2 7 1 (.bool true) fun c3 => (π.put c3 8 1 t0 fun c4 => (π.put zl24 0 9 (.agg c4) fun c5 => (updS fr0 [(2, .box c5), (0, .val t0), (0, .val (.agg c4))] fun fr6 => (k .ret fr6 σ)))))))))))) (execG π PG C (cd PG 27) fr σ k)
theorem p27_0_eq {α : Type} (π : Prims α) (C : CallF α) : execG π PG C (cd PG 27) = p27_0 π C := by
  funext fr σ k
  obtain ⟨slots, defers, esc, rc⟩ := fr
  unfold p27_0
  refine dV_eq fun _ _ h => ?_; subst h
  iterate 4 (refine dKs_eq fun _ _ h => ?_; subst h)
  refine dK0_eq ?_
  refine dN_eq fun h => ?_; subst h
  refine sk_eq (.seq (.run (sA (cd PG 27))) (.seq (.run (sA (sB (cd PG 27)))) (.run (sB (sB (cd PG 27)))))) (by kernel_rfl) ?_
  generalize execG π PG C = H
  kernel_rfl
-- 236 (ravelin/base word) immI
noncomputable def p236_0 {α : Type} (π : Prims α) (C : CallF α) (fr : Fr) (σ : St) (k : Ex → Fr → St → Option α) : Option α :=
  (fun no => (dV fr.slots no fun t0 r1 => (dK 4 r1 no fun r5 => (dN fr.esc 0 no (C 233 [t0, (.int .i64 (Int.ofNat 31)), (.int .i64 (Int.ofNat 20))] σ (fun x0 σ1 => (updS fr [(2, .val x0), (0, .val t0), (0, .val x0)] fun fr2 => (k .ret fr2 σ1))) (fun x3 σ4 => (updS fr [(2, .val (.int .i64 (Int.ofNat 0))), (0, .val t0)] fun fr5 => (k (.panic x3) fr5 σ4)))))))) (execG π PG C (cd PG 236) fr σ k)
theorem p236_0_eq {α : Type} (π : Prims α) (C : CallF α) : execG π PG C (cd PG 236) = p236_0 π C := by
  funext fr σ k
  obtain ⟨slots, defers, esc, rc⟩ := fr
  unfold p236_0
  refine dV_eq fun _ _ h => ?_; subst h
  iterate 4 (refine dKs_eq fun _ _ h => ?_; subst h)
  refine dK0_eq ?_
  refine dN_eq fun h => ?_; subst h
  refine sk_eq (.seq (.run (sA (cd PG 236))) (.seq (.run (sA (sB (cd PG 236)))) (.run (sB (sB (cd PG 236)))))) (by kernel_rfl) ?_
  generalize execG π PG C = H
  kernel_rfl
-- 65 ravelin/capops Sealed
noncomputable def p65_0 {α : Type} (π : Prims α) (C : CallF α) (fr : Fr) (σ : St) (k : Ex → Fr → St → Option α) : Option α :=
  (fun no => (dV fr.slots no fun t0 r1 => (dK 5 r1 no fun r6 => (dN fr.esc 0 no (dataF t0 1 fun _ => (nbS fr 1 (AVal.cells t0) fun fr0 => (π.part false (AVal.cells t0) 2 1 fun x1 => (π.bin PG .neq 3 true x1 (.int .i64 (Int.ofNat 262143)) fun x2 => (updS fr0 [(2, .val x2), (0, .ref 1 2), (0, .val x1), (0, .val x2)] fun fr3 => (k .ret fr3 σ)))))))))) (execG π PG C (cd PG 65) fr σ k)
theorem p65_0_eq {α : Type} (π : Prims α) (C : CallF α) : execG π PG C (cd PG 65) = p65_0 π C := by
  funext fr σ k
  obtain ⟨slots, defers, esc, rc⟩ := fr
  unfold p65_0
  refine dV_eq fun _ _ h => ?_; subst h
  iterate 5 (refine dKs_eq fun _ _ h => ?_; subst h)
  refine dK0_eq ?_
  refine dN_eq fun h => ?_; subst h
  refine sk_eq (.seq (.run (sA (cd PG 65))) (.seq (.run (sA (sB (cd PG 65)))) (.run (sB (sB (cd PG 65)))))) (by kernel_rfl) ?_
  generalize execG π PG C = H
  kernel_rfl
end
end Go.Sh
