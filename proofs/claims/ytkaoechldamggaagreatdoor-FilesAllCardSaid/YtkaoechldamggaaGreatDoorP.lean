/- append of one element to a slice of the call's own, at this program's element types. -/
import Derived.Test.YtkaoechldamggaaGreatDoorProg
import Derived.Test.YtkaoechldamggaaGreatDoorV
namespace Go.Proofs.YtkaoechldamggaaGreatDoor
open Go Go.RowKit

theorem grownBy_of_alloc {W w' : World} {o : Obj} {row : Option Nat} (h : (W.alloc o).grownBy w' row) : W.grownBy w' row :=
  ⟨h.os, h.tape, h.output, Nat.le_trans (by simp) h.size, fun k hk hr => (h.block k (by simp; omega) hr).trans (Below.heap_alloc W o k hk)⟩

theorem wpList_push {P : Program} (W : World) {ops : Array Oper} {rest : List Oper} {o : Oper} {a : Act} {Q : Exit → Act → World → Prop} (hgd : o.guard = none) (s x : Operand) (t e : TypeId)
    (ho : o.op = .call { callee := .builtin .append, args := #[s, x], argTypes := #[t, t] })
    (z : Value) (sz bytes : Nat) (ht : P.underlying t = some (.slice e)) (hinfo : (P.info? e).map (fun i => (i.zero, i.size, i.bytes)) = some (some z, sz, bytes)) (hzs : z.cells.size = sz) (hsz : 0 < sz)
    (base : Nat) (v : Value) (n : Nat) (xs : List Value) (hs : a.eval s = v) (hown : W.ownsRow base e sz v n xs)
    (cs : Array Value) (hx : a.eval x = .slice (some ⟨W.heap.size, 0, none⟩) 1 1) (hl : cs.size = sz) (h1 : ∀ u ∈ cs.toList, u.oneCell' = true)
    (hn : n < 4611686018427387904) (hb : (n + 1) * bytes ≤ 140737488355328) (hbase : base ≤ W.heap.size)
    (h : ∀ v' w', w'.ownsRow base e sz v' (n + 1) (xs ++ cs.toList) → W.grownBy w' v.ownBlock → wpList P ops Q rest (a.put o.dst v') w') :
    wpList P ops Q (o :: rest) a (W.alloc (.cells cs e)) := by
  obtain ⟨i, hi, hz0, hz1, hz2⟩ := info_parts hinfo
  refine wpList_append_own _ hgd s x t ho base e i z sz bytes ht hi hz0 hz1 hz2 hzs hsz v n xs hs (hown.alloc _) ⟨W.heap.size, 0, none⟩ 1 1 cs.toList hx (by simpa using hl) ?_ h1 (by simp only [maxLen]; omega) hb (by simp; omega) ?_
  · intro j u hj
    rw [add_lit, World.cell?_alloc_at _ _ _ _ rfl]
    simpa using hj
  · intro v' w' hown' hg _
    exact h v' w' hown' (grownBy_of_alloc hg)

section
variable (W : World) {ops : Array Oper} {rest : List Oper} {o : Oper} {a : Act} {Q : Exit → Act → World → Prop} (s x : Operand) (base : Nat) (v : Value)

theorem push_str (hgd : o.guard = none) (xs : List Bs) (u : ByteArray) (l : Bs) (hu : u = ⟨l.toArray⟩) (ho : o.op = .call { callee := .builtin .append, args := #[s, x], argTypes := #[34, 34] }) (hs : a.eval s = v) (hown : W.ownsRow base 9 1 v xs.length (strCells xs))
    (hx : a.eval x = .slice (some ⟨W.heap.size, 0, none⟩) 1 1) (hn : xs.length ≤ 1099511627776) (hbase : base ≤ W.heap.size)
    (h : ∀ v' w', w'.ownsRow base 9 1 v' (xs ++ [l]).length (strCells (xs ++ [l])) → W.grownBy w' v.ownBlock → wpList Tryz.prog ops Q rest (a.put o.dst v') w') :
    wpList Tryz.prog ops Q (o :: rest) a (W.alloc (.cells #[.string u] 9)) := by
  subst hu
  refine wpList_push W hgd s x 34 9 ho (.string ⟨#[]⟩) 1 16 Tryz.underlying34 (by kernel_rfl) rfl (by decide) base v xs.length (strCells xs) hs hown #[.string ⟨l.toArray⟩] hx rfl (by simp [Value.oneCell']) (by omega) (by omega) hbase ?_
  intro v' w' h1 h2
  refine h v' w' ?_ h2
  simpa [strCells, str] using h1

theorem push_inf (hgd : o.guard = none) (xs : List Inf) (l : Inf) (ho : o.op = .call { callee := .builtin .append, args := #[s, x], argTypes := #[54, 54] }) (hs : a.eval s = v) (hown : W.ownsRow base 45 3 v xs.length (infCells xs))
    (hx : a.eval x = .slice (some ⟨W.heap.size, 0, none⟩) 1 1) (hn : xs.length ≤ 1099511627776) (hbase : base ≤ W.heap.size)
    (h : ∀ v' w', w'.ownsRow base 45 3 v' (xs ++ [l]).length (infCells (xs ++ [l])) → W.grownBy w' v.ownBlock → wpList Tryz.prog ops Q rest (a.put o.dst v') w') :
    wpList Tryz.prog ops Q (o :: rest) a (W.alloc (.cells #[.string ⟨l.name.toArray⟩, .bool l.dir, .int .i64 (l.size : Int)] 45)) := by
  refine wpList_push W hgd s x 54 45 ho (.agg #[.string ⟨#[]⟩, .bool false, .int .i64 0]) 3 32 Tryz.underlying54 (by kernel_rfl) rfl (by decide) base v xs.length (infCells xs) hs hown #[.string ⟨l.name.toArray⟩, .bool l.dir, .int .i64 (l.size : Int)] hx rfl (by simp [Value.oneCell']) (by omega) (by omega) hbase ?_
  intro v' w' h1 h2
  refine h v' w' ?_ h2
  simpa [infCells, infCell, str, List.flatMap_append] using h1

theorem push_ask (hgd : o.guard = none) (xs : List Ask) (l : Ask) (ho : o.op = .call { callee := .builtin .append, args := #[s, x], argTypes := #[35, 35] }) (hs : a.eval s = v) (hown : W.ownsRow base 102 2 v xs.length (askCells xs))
    (hx : a.eval x = .slice (some ⟨W.heap.size, 0, none⟩) 1 1) (hn : xs.length ≤ 1099511627776) (hbase : base ≤ W.heap.size)
    (h : ∀ v' w', w'.ownsRow base 102 2 v' (xs ++ [l]).length (askCells (xs ++ [l])) → W.grownBy w' v.ownBlock → wpList Tryz.prog ops Q rest (a.put o.dst v') w') :
    wpList Tryz.prog ops Q (o :: rest) a (W.alloc (.cells #[.int .i64 (l.way : Int), .string ⟨l.path.toArray⟩] 102)) := by
  refine wpList_push W hgd s x 35 102 ho (.agg #[.int .i64 0, .string ⟨#[]⟩]) 2 24 Tryz.underlying35 (by kernel_rfl) rfl (by decide) base v xs.length (askCells xs) hs hown #[.int .i64 (l.way : Int), .string ⟨l.path.toArray⟩] hx rfl (by simp [Value.oneCell']) (by omega) (by omega) hbase ?_
  intro v' w' h1 h2
  refine h v' w' ?_ h2
  simpa [askCells, askCell, str, List.flatMap_append] using h1

theorem push_ent (hgd : o.guard = none) (xs : List Ent) (l : Ent) (ho : o.op = .call { callee := .builtin .append, args := #[s, x], argTypes := #[29, 29] }) (hs : a.eval s = v) (hown : W.ownsRow base 74 2 v xs.length (entCells xs))
    (hx : a.eval x = .slice (some ⟨W.heap.size, 0, none⟩) 1 1) (hn : xs.length ≤ 1099511627776) (hbase : base ≤ W.heap.size)
    (h : ∀ v' w', w'.ownsRow base 74 2 v' (xs ++ [l]).length (entCells (xs ++ [l])) → W.grownBy w' v.ownBlock → wpList Tryz.prog ops Q rest (a.put o.dst v') w') :
    wpList Tryz.prog ops Q (o :: rest) a (W.alloc (.cells #[.string ⟨l.path.toArray⟩, .string ⟨l.data.toArray⟩] 74)) := by
  refine wpList_push W hgd s x 29 74 ho (.agg #[.string ⟨#[]⟩, .string ⟨#[]⟩]) 2 32 Tryz.underlying29 (by kernel_rfl) rfl (by decide) base v xs.length (entCells xs) hs hown #[.string ⟨l.path.toArray⟩, .string ⟨l.data.toArray⟩] hx rfl (by simp [Value.oneCell']) (by omega) (by omega) hbase ?_
  intro v' w' h1 h2
  refine h v' w' ?_ h2
  simpa [entCells, entCell, str, List.flatMap_append] using h1
end
end Go.Proofs.YtkaoechldamggaaGreatDoor
