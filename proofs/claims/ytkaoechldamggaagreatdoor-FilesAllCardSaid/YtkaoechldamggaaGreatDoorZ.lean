/- errors.As at a *fault that is there; errno. -/
import Derived.Test.YtkaoechldamggaaGreatDoorY
import Derived.Test.YtkaoechldamggaaGreatDoorX
namespace Go.Proofs.YtkaoechldamggaaGreatDoor
open Go Go.RowKit Go.Extern.Stop Go.Stop Go.Extern
set_option maxRecDepth 100000

set_option maxHeartbeats 4000000 in
theorem as_hit (n : Int) (t : Addr) (old : Value) (w : World) (hg : w.cell? ⟨3, 0, none⟩ = some (.iface 213 (.agg #[.pointer (some ⟨5, 104, none⟩)]))) (ht0 : w.cell? t = some old) (hf0 : w.frozen? t = false) :
    Calls Tryz.prog 75 #[.iface 125 (.int .i64 n), .iface 169 (.pointer (some t))] w fun ev w' => ev = .returned (.bool true) ∧ w' = ((((w.alloc (.cells #[.pointer (some t)] 169)).alloc (.cells #[.pointer (some ⟨5, 169, none⟩), .pointer (some ⟨w.heap.size, 0, none⟩), .int .u64 150] 201)).alloc (.cells #[.pointer (some ⟨5, 169, none⟩), .pointer (some ⟨w.heap.size, 0, none⟩), .int .u64 150] 201)).alloc (.cells #[.int .i64 n] 125)).setCell t (.int .i64 n) := by
  have x93 := @run_callFunc_extern Tryz.prog 93 _ (fun args => ReflectliteValue.unpack (args.getD 0 (.tuple #[]))) Tryz.func93 (by kernel_rfl) (by kernel_rfl) (by kernel_rfl) (by kernel_rfl)
  have x94 := @run_callFunc_extern Tryz.prog 94 _ (ReflectliteValue.methodAny (ReflectliteValue.valueError "reflectlite.Value.Type" 0) (fun t _ _ _ => ReflectliteType.toType t)) Tryz.func94 (by kernel_rfl) (by kernel_rfl) (by kernel_rfl) (by kernel_rfl)
  have x95 := @run_callFunc_extern Tryz.prog 95 _ (ReflectliteValue.method (ReflectliteValue.valueError "reflectlite.Value.IsNil" 0) ReflectliteValue.isNil) Tryz.func95 (by kernel_rfl) (by kernel_rfl) (by kernel_rfl) (by kernel_rfl)
  have x160 := @run_callFunc_extern Tryz.prog 160 _ (ReflectliteType.abiMethod fun t => do pure (.int .u8 (← Rtype.kind t))) Tryz.func160 (by kernel_rfl) (by kernel_rfl) (by kernel_rfl) (by kernel_rfl)
  have x175 := @run_callFunc_extern Tryz.prog 175 _ (ReflectliteType.method ReflectliteType.elem) Tryz.func175 (by kernel_rfl) (by kernel_rfl) (by kernel_rfl) (by kernel_rfl)
  have x176 := @run_callFunc_extern Tryz.prog 176 _ (ReflectliteType.relation "Implements" ReflectliteType.implements_) Tryz.func176 (by kernel_rfl) (by kernel_rfl) (by kernel_rfl) (by kernel_rfl)
  have x84 := @run_callFunc_extern Tryz.prog 84 _ ReflectliteType.typeOf Tryz.func84 (by kernel_rfl) (by kernel_rfl) (by kernel_rfl) (by kernel_rfl)
  have x173 := @run_callFunc_extern Tryz.prog 173 _ (ReflectliteType.relation "AssignableTo" ReflectliteType.assignableTo) Tryz.func173 (by kernel_rfl) (by kernel_rfl) (by kernel_rfl) (by kernel_rfl)
  have x107 := @run_callFunc_extern Tryz.prog 107 _ (ReflectliteValue.method (ReflectliteValue.valueError "reflectlite.Value.Elem" 0) ReflectliteValue.elem) Tryz.func107 (by kernel_rfl) (by kernel_rfl) (by kernel_rfl) (by kernel_rfl)
  have x108 := @run_callFunc_extern Tryz.prog 108 _ ReflectliteValue.set Tryz.func108 (by kernel_rfl) (by kernel_rfl) (by kernel_rfl) (by kernel_rfl)
  have tO := typeOf125
  have a25 := assignable125
  have v25 := valueOf125
  have f6 := valueOf169
  have f7 := type169
  have k27 := kind169
  have k25 := kind125
  have e27 := elem169
  have i25 := implements125
  have n8 := isNil169 ⟨w.heap.size, 0, none⟩ t ((w.alloc (.cells #[.pointer (some t)] 169)).alloc (.cells #[.pointer (some ⟨5, 169, none⟩), .pointer (some ⟨w.heap.size, 0, none⟩), .int .u64 150] 201)) (by simp)
  have hlt : 3 < w.heap.size := World.block_lt_of_cell? w _ hg
  have hg2 : ((w.alloc (.cells #[.pointer (some t)] 169)).alloc (.cells #[.pointer (some ⟨5, 169, none⟩), .pointer (some ⟨w.heap.size, 0, none⟩), .int .u64 150] 201)).cell? ⟨3, 0, none⟩ = some (.iface 213 (.agg #[.pointer (some ⟨5, 104, none⟩)])) := by
    rw [World.cell?_alloc_lt _ _ ⟨3, 0, none⟩ (by simp; omega), World.cell?_alloc_lt _ _ ⟨3, 0, none⟩ hlt]; exact hg
  have htl : t.block < w.heap.size := World.block_lt_of_cell? w _ ht0
  have el := elemV169 ⟨w.heap.size, 0, none⟩ t (((w.alloc (.cells #[.pointer (some t)] 169)).alloc (.cells #[.pointer (some ⟨5, 169, none⟩), .pointer (some ⟨w.heap.size, 0, none⟩), .int .u64 150] 201)).alloc (.cells #[.pointer (some ⟨5, 169, none⟩), .pointer (some ⟨w.heap.size, 0, none⟩), .int .u64 150] 201)) (by rw [World.cell?_alloc_lt _ _ ⟨w.heap.size, 0, none⟩ (by simp; omega)]; simp)
  have st := set125 t ⟨w.heap.size + 1 + 1 + 1, 0, none⟩ n old ((((w.alloc (.cells #[.pointer (some t)] 169)).alloc (.cells #[.pointer (some ⟨5, 169, none⟩), .pointer (some ⟨w.heap.size, 0, none⟩), .int .u64 150] 201)).alloc (.cells #[.pointer (some ⟨5, 169, none⟩), .pointer (some ⟨w.heap.size, 0, none⟩), .int .u64 150] 201)).alloc (.cells #[.int .i64 n] 125))
    (by rw [World.cell?_alloc_at _ _ _ _ (by simp)]; rfl)
    (by rw [World.cell?_alloc_lt _ _ t (by simp; omega), World.cell?_alloc_lt _ _ t (by simp; omega), World.cell?_alloc_lt _ _ t (by simp; omega), World.cell?_alloc_lt _ _ t htl]; exact ht0)
    (by rw [World.frozen?_alloc_old _ _ t (by simp; omega), World.frozen?_alloc_old _ _ t (by simp; omega), World.frozen?_alloc_old _ _ t (by simp; omega), World.frozen?_alloc_old _ _ t (Nat.ne_of_lt htl)]; exact hf0)
  go_enter Tryz.func75, Tryz.ntmps75
  go_wp2
  refine wp_loop_rounds 1 ?_
  rw [rounds_succ]
  go_wp2
  go_ret
  exact ⟨rfl, rfl⟩
theorem perrno (n : Nat) (w : World) (he : Env w) : Calls Tryz.prog 44 #[errV n] w fun e w' => e = .returned (.int .i64 (n : Int)) ∧ Below w.heap.size w w' := by
  have hg := (he.below ((Below.refl _ _).alloc (Nat.le_refl _) (.cells #[.int .i64 0] 125))).et
  by_cases h0 : n = 0
  · subst h0
    rw [errV0]
    go_enter Tryz.func44, Tryz.ntmps44
    go_wp2_with (go_at_call 75; refine (as_nil _ _).mono ?_; rintro e w1 ⟨rfl, rfl⟩)
    go_returns
    exact ⟨rfl, by go_grown⟩
  · unfold errV
    rw [if_neg h0]
    go_enter Tryz.func44, Tryz.ntmps44
    go_wp2_with (go_at_call 75; refine (as_hit n _ (.int .i64 0) _ hg (by simp) (by simp)).mono ?_; rintro e w1 ⟨rfl, rfl⟩)
    go_returns
    refine ⟨by simp, by go_grown⟩

end Go.Proofs.YtkaoechldamggaaGreatDoor
