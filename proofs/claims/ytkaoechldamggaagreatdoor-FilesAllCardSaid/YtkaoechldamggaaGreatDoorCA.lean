/- errors.Is against the files' errSkip. slices.Contains of a row of texts. -/
import Derived.Test.YtkaoechldamggaaGreatDoorW
import Derived.Stop.Asserts
import Derived.LaidEql
import Derived.RowKitTokens
import Derived.WalkKit
import Derived.Test.YtkaoechldamggaaGreatDoorShelf
import Derived.Test.YtkaoechldamggaaGreatDoorL
namespace Go.Proofs.YtkaoechldamggaaGreatDoor
open Go Go.RowKit Go.Extern.Stop Go.Stop Go.Extern
set_option maxRecDepth 100000

theorem isTypeOf (v : Value) (w : World) : (Extern.ReflectliteType.typeOf #[.iface 263 v]).run Tryz.prog w = .ok (.iface 213 (.agg #[.pointer (some ⟨5, 263, none⟩)])) w := by kernel_rfl
theorem isComparable (w : World) : ((ReflectliteType.method fun t => do Rtype.noPackHeld "Comparable" t; pure (.bool (← typeInfo t).comparable)) #[.agg #[.pointer (some ⟨5, 263, none⟩)]]).run Tryz.prog w = .ok (.bool true) w := by kernel_rfl
theorem callComparable (w : World) : (callFunc 174 #[.agg #[.pointer (some ⟨5, 263, none⟩)]]).run Tryz.prog w = .ok (.value (.bool true)) w := by
  have h := @run_callFunc_extern Tryz.prog 174 _ (ReflectliteType.method fun t => do Rtype.noPackHeld "Comparable" t; pure (.bool (← typeInfo t).comparable)) Tryz.func174 (by kernel_rfl) (by kernel_rfl) (by kernel_rfl) (by kernel_rfl)
  rw [h, isComparable]
  rfl
theorem isMethodComparable (v : Value) (w : World) : (Go.method Tryz.prog.types.size 213 v "Comparable").run Tryz.prog w = .ok (174, v) w := by kernel_rfl
theorem isComp : (Tryz.prog.info? 263).map (·.comparable) = some true := by kernel_rfl
theorem isSize : (Tryz.prog.info? 284).map (·.size) = some 1 := by kernel_rfl
theorem noIsF (v : Value) (xT : TypeId) (w : World) : (Instr.typeAssert (.iface 125 v) xT 215 true).run Tryz.prog w = .ok (.tuple #[.nilIface, .bool false]) w := run_typeAssert_lacksB Tryz.underlying215 (by kernel_rfl) (by kernel_rfl) v xT w
theorem noUnwrapF (v : Value) (xT : TypeId) (w : World) : (Instr.typeAssert (.iface 125 v) xT 218 true).run Tryz.prog w = .ok (.tuple #[.nilIface, .bool false]) w := run_typeAssert_lacksB Tryz.underlying218 (by kernel_rfl) (by kernel_rfl) v xT w
theorem noUnwrapsF (v : Value) (xT : TypeId) (w : World) : (Instr.typeAssert (.iface 125 v) xT 220 true).run Tryz.prog w = .ok (.tuple #[.nilIface, .bool false]) w := run_typeAssert_lacksB Tryz.underlying220 (by kernel_rfl) (by kernel_rfl) v xT w

/-- errors.Is(errSkip, errSkip). -/
theorem pisSame (a : Addr) (w : World) :
    Calls Tryz.prog 59 #[.iface 263 (.pointer (some a)), .iface 263 (.pointer (some a))] w fun e w' => e = .returned (.bool true) ∧ w' = w := by
  obtain ⟨i, hi, hcmp⟩ := Option.map_eq_some_iff.1 isComp
  obtain ⟨j, hj, hjs⟩ := Option.map_eq_some_iff.1 isSize
  have h84 := @run_callFunc_extern Tryz.prog 84 _ Extern.ReflectliteType.typeOf Tryz.func84 (by kernel_rfl) (by kernel_rfl) (by kernel_rfl) (by kernel_rfl)
  have h174 := callComparable
  have tT := isTypeOf
  have mR := isMethodComparable
  have heq := run_eql_iface_ptr_same (P := Tryz.prog) w a Tryz.underlying104 Tryz.underlying263 hi hcmp hj
  go_enter Tryz.func59, Tryz.ntmps59
  go_wp2
  refine wp_loop_rounds 1 ?_
  rw [rounds_succ]
  go_wp2
  go_ret
  exact ⟨rfl, rfl⟩

/-- errors.Is(nil, errSkip). -/
theorem pisNil (b : Addr) (w : World) :
    Calls Tryz.prog 59 #[.nilIface, .iface 263 (.pointer (some b))] w fun e w' => e = .returned (.bool false) ∧ w' = w := by
  have hn := run_eql_iface_nil_left (P := Tryz.prog) w 263 (.pointer (some b)) Tryz.underlying104
  go_enter Tryz.func59, Tryz.ntmps59
  go_wp2
  go_ret
  exact ⟨rfl, rfl⟩

/-- errors.Is(a fault, errSkip). -/
theorem pisFault (n : Int) (b : Addr) (w : World) :
    Calls Tryz.prog 59 #[.iface 125 (.int .i64 n), .iface 263 (.pointer (some b))] w fun e w' => e = .returned (.bool false) ∧ w' = w := by
  have h84 := @run_callFunc_extern Tryz.prog 84 _ Extern.ReflectliteType.typeOf Tryz.func84 (by kernel_rfl) (by kernel_rfl) (by kernel_rfl) (by kernel_rfl)
  have h174 := callComparable
  have tT := isTypeOf
  have mR := isMethodComparable
  have nE := noIsF
  have uE := noUnwrapF
  have vE := noUnwrapsF
  have hty := run_eql_iface_types (P := Tryz.prog) 125 263 (.int .i64 n) (.pointer (some b)) Tryz.underlying104 (by decide) w
  go_enter Tryz.func59, Tryz.ntmps59
  go_wp2
  refine wp_loop_rounds 1 ?_
  rw [rounds_succ]
  go_wp2
  go_ret
  exact ⟨rfl, rfl⟩
end Go.Proofs.YtkaoechldamggaaGreatDoor
namespace Go.Proofs.YtkaoechldamggaaGreatDoor
open Go Go.RowKit
set_option maxRecDepth 100000

theorem containsS_eq (l : List Bs) (q : Bs) : Lib.containsS (l.map fun x => (⟨x.toArray⟩ : ByteArray)) ⟨q.toArray⟩ = l.contains q := by
  rw [Bool.eq_iff_iff, Lib.containsS_iff, List.contains_iff_mem, List.mem_map]
  constructor
  · rintro ⟨x, hx, e⟩
    have : x = q := by
      have h := congrArg (fun b : ByteArray => b.data.toList) e
      simpa using h
    rw [← this]; exact hx
  · intro h
    exact ⟨q, h, rfl⟩
theorem pcontains (A : Option Addr) (c : Nat) (l : List Bs) (q : Bs) (w : World) (hr : Rd w w.heap.size A (strCells l)) (hn : l.length ≤ 1099511627776) :
    Calls Tryz.prog 101 #[.slice A l.length c, .string ⟨q.toArray⟩] w fun e w' => e = .returned (.bool (l.contains q)) ∧ w' = w := by
  cases hl : l with
  | nil => exact Tryz.slices_Contains_string_empty A c ⟨q.toArray⟩ w
  | cons x t =>
    rw [← hl]
    obtain ⟨ad, rfl, _, h0⟩ := hr.str 0 (by rw [hl]; simp)
    rw [show ad.add 0 = ad from Addr.add_zero' ad] at h0
    have hs := World.cell?_spot h0
    obtain ⟨b, off, spot⟩ := ad
    obtain rfl : spot = none := hs
    have h := Tryz.slices_Contains_string b off l.length c (l.map fun x => (⟨x.toArray⟩ : ByteArray)) ⟨q.toArray⟩ w (by simp) (by omega) (fun j hj => by
      have hj2 : j < l.length := by simpa using hj
      obtain ⟨a2, e, _, h1⟩ := hr.str j hj2
      cases e
      have e2 : (⟨b, off, none⟩ : Addr).add j = ⟨b, off + j, none⟩ := by unfold Addr.add; split <;> simp_all
      rw [e2] at h1
      rw [h1]
      simp [List.getD, hj2])
    rw [List.take_of_length_le (by simp), containsS_eq] at h
    exact h
end Go.Proofs.YtkaoechldamggaaGreatDoor
