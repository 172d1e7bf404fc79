/- Parts in memory: a struct of one bool and 256 bools in a block. -/
import Derived.Test.YtkaoechldamggaaGreatDoorD
import Derived.Great.BuildSlice
namespace Go.Proofs.YtkaoechldamggaaGreatDoor
open Go Go.RowKit
set_option maxRecDepth 100000

def prtArr (any : Bool) (f : Nat → Bool) : Array Value := #[.bool any] ++ (Array.range 256).map fun c => .bool (f c)
def upd (f : Nat → Bool) (c : Nat) (v : Bool) : Nat → Bool := fun x => if x = c then v else f x

theorem prtArr_size (any : Bool) (f : Nat → Bool) : (prtArr any f).size = 257 := by simp [prtArr]
theorem prtArr_zero (any : Bool) (f : Nat → Bool) : (prtArr any f)[0]? = some (.bool any) := by simp [prtArr]
theorem prtArr_get (any : Bool) (f : Nat → Bool) (c : Nat) (h : c < 256) : (prtArr any f)[1 + c]? = some (.bool (f c)) := by
  rw [prtArr, Array.getElem?_append_right (by simp)]
  simp [h]
theorem prtArr_set (any : Bool) (f : Nat → Bool) (c : Nat) (v : Bool) (h : c < 256) : (prtArr any f).setIfInBounds (1 + c) (.bool v) = prtArr any (upd f c v) := by
  apply Array.ext_getElem?
  intro i
  rw [Array.getElem?_setIfInBounds]
  by_cases h1 : 1 + c = i
  · subst h1
    rw [if_pos rfl, if_pos (by rw [prtArr_size]; omega), prtArr_get _ _ _ h]
    simp [upd]
  · rw [if_neg h1]
    cases i with
    | zero => rw [prtArr_zero, prtArr_zero]
    | succ i =>
      rw [Nat.add_comm i 1]
      by_cases hi : i < 256
      · rw [prtArr_get _ _ _ hi, prtArr_get _ _ _ hi]
        have : i ≠ c := by omega
        simp [upd, this]
      · rw [Array.getElem?_eq_none (by rw [prtArr_size]; omega), Array.getElem?_eq_none (by rw [prtArr_size]; omega)]
theorem prtArr_any (any b : Bool) (f : Nat → Bool) : (prtArr any f).setIfInBounds 0 (.bool b) = prtArr b f := by
  apply Array.ext_getElem?
  intro i
  rw [Array.getElem?_setIfInBounds]
  cases i with
  | zero => rw [if_pos rfl, if_pos (by rw [prtArr_size]; omega), prtArr_zero]
  | succ i =>
    rw [if_neg (by omega), Nat.add_comm i 1]
    by_cases hi : i < 256
    · rw [prtArr_get _ _ _ hi, prtArr_get _ _ _ hi]
    · rw [Array.getElem?_eq_none (by rw [prtArr_size]; omega), Array.getElem?_eq_none (by rw [prtArr_size]; omega)]
theorem prtArr_congr (any : Bool) (f g : Nat → Bool) (h : ∀ c, c < 256 → f c = g c) : prtArr any f = prtArr any g := by
  unfold prtArr
  congr 1
  apply Array.ext
  · simp
  · intro i h1 h2
    simp at h1 h2 ⊢
    exact h i h1
theorem prtArr_one (any : Bool) (f : Nat → Bool) : ∀ u ∈ (prtArr any f).toList, u.oneCell' = true := by
  intro u hu
  simp only [prtArr, Array.toList_append, List.mem_append, Array.toList_map, List.mem_map] at hu
  rcases hu with hu | ⟨c, _, rfl⟩
  · simp at hu; subst hu; rfl
  · rfl
theorem prtArr_all (any : Bool) (f : Nat → Bool) : (prtArr any f).all (·.oneCell') = true := by
  rw [Array.all_eq_true']
  intro u hu
  exact prtArr_one any f u (by simpa using hu)

/-- Block b holds the part (any, f); T is its type's number. -/
def PB (w : World) (b T : Nat) (any : Bool) (f : Nat → Bool) : Prop := w.heap[b]? = some (.cells (prtArr any f) T (0, 0))
section
variable {w w' : World} {b T : Nat} {any : Bool} {f : Nat → Bool}
theorem PB.lt (h : PB w b T any f) : b < w.heap.size := (Array.getElem?_eq_some_iff.1 h).1
theorem PB.cell (h : PB w b T any f) (c : Nat) (hc : c < 256) : w.cell? ⟨b, 1 + c, none⟩ = some (.bool (f c)) := by rw [cell_of_row w b _ _ T (0, 0) h, prtArr_get _ _ _ hc]
theorem PB.cell0 (h : PB w b T any f) : w.cell? ⟨b, 0, none⟩ = some (.bool any) := by rw [cell_of_row w b _ _ T (0, 0) h, prtArr_zero]
theorem PB.frozen (h : PB w b T any f) (i : Nat) : w.frozen? ⟨b, i, none⟩ = false := by simp only [PB] at h; simp [World.frozen?, h]
theorem PB.set_ (h : PB w b T any f) (c : Nat) (v : Bool) (hc : c < 256) : PB (w.setCell ⟨b, 1 + c, none⟩ (.bool v)) b T any (upd f c v) := by
  unfold PB at h ⊢
  rw [← prtArr_set _ _ _ _ hc]
  simp [World.setCell, Array.getElem?_modify, h]
theorem PB.set0 (h : PB w b T any f) (v : Bool) : PB (w.setCell ⟨b, 0, none⟩ (.bool v)) b T v f := by
  unfold PB at h ⊢
  rw [← prtArr_any any]
  simp [World.setCell, Array.getElem?_modify, h]
theorem PB.far (h : PB w b T any f) {p : Addr} (hp : b ≠ p.block) (u : Value) : PB (w.setCell p u) b T any f := (Below.heap_setCell w p u b hp).trans h
theorem PB.row (h : PB w b T any f) {g : Nat} (hp : b ≠ g) (cs : Array Value) : PB (w.setRow g cs) b T any f := (setRow_other w g b cs hp).trans h
theorem PB.below {B : Nat} (h : PB w b T any f) (hb : Below B w w') (hB : b < B) : PB w' b T any f := (hb.block b hB).trans h
theorem PB.alloc (h : PB w b T any f) (o : Obj) : PB (w.alloc o) b T any f := (Below.heap_alloc w o b h.lt).trans h
theorem PB.new (w : World) (T : Nat) (any : Bool) (f : Nat → Bool) : PB (w.alloc (.cells (prtArr any f) T)) w.heap.size T any f := heap_alloc_new w _
theorem PB.newAt {w : World} {o : Obj} {b : Nat} (T : Nat) (any : Bool) (f : Nat → Bool) (ho : o = .cells (prtArr any f) T) (hb : b = w.heap.size) : PB (w.alloc o) b T any f := by subst ho; subst hb; exact heap_alloc_new w _
theorem PB.congr (h : PB w b T any f) {g : Nat → Bool} (hg : ∀ c, c < 256 → f c = g c) : PB w b T any g := by
  unfold PB at h ⊢; rw [h, prtArr_congr any f g hg]
end
theorem zero137 : Tryz.zeroCells137 = prtArr false fun _ => false := by kernel_rfl
theorem zero86 : Tryz.zeroCells86 = prtArr false fun _ => false := by kernel_rfl

section
variable {ops : Array Oper} {rest : List Oper} {o : Oper} {a : Act} {w : World} {Q : Exit → Act → World → Prop}
theorem load137 (hgd : o.guard = none) (x : Operand) (ho : o.op = .load 137 x) (g : Nat) (hx : a.eval x = .pointer (some ⟨g, 0, none⟩)) {any : Bool} {f : Nat → Bool} (hg : PB w g 137 any f)
    (h : wpList Tryz.prog ops Q rest (a.put o.dst (.agg (prtArr any f))) w) : wpList Tryz.prog ops Q (o :: rest) a w :=
  wpList_load_row hgd 137 x ho g hx 137 _ (0, 0) _ hg Tryz.underlying137 rfl (by rw [prtArr_size]; kernel_rfl) h
theorem load86 (hgd : o.guard = none) (x : Operand) (ho : o.op = .load 86 x) (g : Nat) (hx : a.eval x = .pointer (some ⟨g, 0, none⟩)) {any : Bool} {f : Nat → Bool} (hg : PB w g 86 any f)
    (h : wpList Tryz.prog ops Q rest (a.put o.dst (.agg (prtArr any f))) w) : wpList Tryz.prog ops Q (o :: rest) a w :=
  wpList_load_row hgd 86 x ho g hx 86 _ (0, 0) _ hg Tryz.underlying86 rfl (by rw [prtArr_size]; kernel_rfl) h

/-- Only block g has been written. -/
structure Wrote (w : World) (g : Nat) (w' : World) : Prop where
  os : w'.os = w.os
  tape : w'.tape = w.tape
  output : w'.output = w.output
  size : w'.heap.size = w.heap.size
  block : ∀ k, k ≠ g → w'.heap[k]? = w.heap[k]?
theorem Wrote.row (w : World) (g : Nat) (cs : Array Value) : Wrote w g (w.setRow g cs) := ⟨rfl, rfl, rfl, by simp, fun k hk => setRow_other w g k cs hk⟩
theorem Wrote.cell (w : World) (p : Addr) (u : Value) : Wrote w p.block (w.setCell p u) := ⟨rfl, rfl, rfl, by simp [World.setCell], fun k hk => Below.heap_setCell w p u k hk⟩
theorem Wrote.below {w0 w w' : World} {g B : Nat} (h : Wrote w g w') (hb : Below B w0 w) (hg : B ≤ g) : Below B w0 w' :=
  hb.trans ⟨h.os, h.tape, h.output, by rw [h.size]; exact Nat.le_refl _, fun k hk => h.block k (by omega)⟩
theorem PB.wrote {w w' : World} {g b T : Nat} {any : Bool} {f : Nat → Bool} (h : PB w b T any f) (hw : Wrote w g w') (hb : b ≠ g) : PB w' b T any f := (hw.block b hb).trans h

theorem store137 (hgd : o.guard = none) (x y : Operand) (ho : o.op = .store 137 x y) (g : Nat) (hx : a.eval x = .pointer (some ⟨g, 0, none⟩)) {any any' : Bool} {f f' : Nat → Bool} (hg : PB w g 137 any f)
    (hy : a.eval y = .agg (prtArr any' f')) (h : ∀ w', PB w' g 137 any' f' → Wrote w g w' → wpList Tryz.prog ops Q rest (a.put o.dst undef) w') : wpList Tryz.prog ops Q (o :: rest) a w :=
  wpList_store_row hgd 137 x y ho g _ hx hy 137 _ hg (by rw [prtArr_size]; kernel_rfl) (by rw [prtArr_size, prtArr_size]) (prtArr_all _ _)
    (h _ (setRow_heap w g _ _ 137 (0, 0) hg) (Wrote.row w g _))
theorem store86 (hgd : o.guard = none) (x y : Operand) (ho : o.op = .store 86 x y) (g : Nat) (hx : a.eval x = .pointer (some ⟨g, 0, none⟩)) {any any' : Bool} {f f' : Nat → Bool} (hg : PB w g 86 any f)
    (hy : a.eval y = .agg (prtArr any' f')) (h : ∀ w', PB w' g 86 any' f' → Wrote w g w' → wpList Tryz.prog ops Q rest (a.put o.dst undef) w') : wpList Tryz.prog ops Q (o :: rest) a w :=
  wpList_store_row hgd 86 x y ho g _ hx hy 86 _ hg (by rw [prtArr_size]; kernel_rfl) (by rw [prtArr_size, prtArr_size]) (prtArr_all _ _)
    (h _ (setRow_heap w g _ _ 86 (0, 0) hg) (Wrote.row w g _))
end

theorem results_137 {fn : Func} {p u v : Tmp} (h : fn.results = #[.cell p 137, .tmp u, .tmp v]) (tmps : Array Value) (w : World) (g : Nat) (any : Bool) (f : Nat → Bool)
    (hp : tmps.getD p undef = .pointer (some ⟨g, 0, none⟩)) (hg : PB w g 137 any f) :
    (results fn tmps).run Tryz.prog w = .ok (.tuple #[.agg (prtArr any f), tmps.getD u undef, tmps.getD v undef]) w := by
  have hp' : tmps[p]?.getD undef = .pointer (some ⟨g, 0, none⟩) := by simpa using hp
  simp [results, h, hp', asAddr, run_loadVar_row w g 137 137 _ (0, 0) _ hg Tryz.underlying137 rfl (by rw [prtArr_size]; kernel_rfl)]
theorem results_86 {fn : Func} {p u v : Tmp} (h : fn.results = #[.cell p 86, .tmp u, .tmp v]) (tmps : Array Value) (w : World) (g : Nat) (any : Bool) (f : Nat → Bool)
    (hp : tmps.getD p undef = .pointer (some ⟨g, 0, none⟩)) (hg : PB w g 86 any f) :
    (results fn tmps).run Tryz.prog w = .ok (.tuple #[.agg (prtArr any f), tmps.getD u undef, tmps.getD v undef]) w := by
  have hp' : tmps[p]?.getD undef = .pointer (some ⟨g, 0, none⟩) := by simpa using hp
  simp [results, h, hp', asAddr, run_loadVar_row w g 86 86 _ (0, 0) _ hg Tryz.underlying86 rfl (by rw [prtArr_size]; kernel_rfl)]
end Go.Proofs.YtkaoechldamggaaGreatDoor
namespace Go.Proofs.YtkaoechldamggaaGreatDoor
open Go Go.RowKit
set_option maxRecDepth 100000
def prtCell (x : Prt) : List Value := (prtArr x.any x.has).toList
def prtCells (l : List Prt) : List Value := l.flatMap prtCell
theorem prtCell_length (x : Prt) : (prtCell x).length = 257 := by rw [prtCell, Array.length_toList, prtArr_size]

theorem push_137 (W : World) {ops : Array Oper} {rest : List Oper} {o : Oper} {a : Act} {Q : Exit → Act → World → Prop} (hgd : o.guard = none) (s x : Operand) (base : Nat) (v : Value) (xs : List Prt) (any : Bool) (f : Nat → Bool)
    (ho : o.op = .call { callee := .builtin .append, args := #[s, x], argTypes := #[76, 76] }) (hs : a.eval s = v) (hown : W.ownsRow base 137 257 v xs.length (prtCells xs))
    (hx : a.eval x = .slice (some ⟨W.heap.size, 0, none⟩) 1 1) (hn : xs.length ≤ 268435456) (hbase : base ≤ W.heap.size)
    (h : ∀ v' w', w'.ownsRow base 137 257 v' (xs ++ [(⟨any, f⟩ : Prt)]).length (prtCells (xs ++ [(⟨any, f⟩ : Prt)])) → W.grownBy w' v.ownBlock → wpList Tryz.prog ops Q rest (a.put o.dst v') w') :
    wpList Tryz.prog ops Q (o :: rest) a (W.alloc (.cells (prtArr any f) 137)) := by
  refine wpList_push W hgd s x 76 137 ho (.agg Tryz.zeroCells137) 257 257 Tryz.underlying76 (by kernel_rfl) (by rw [zero137]; exact prtArr_size _ _) (by decide) base v xs.length (prtCells xs) hs hown (prtArr any f) hx (prtArr_size _ _) (prtArr_one _ _) (by omega) (by omega) hbase ?_
  intro v' w' h1 h2
  refine h v' w' ?_ h2
  simpa [prtCells, prtCell, List.flatMap_append] using h1
theorem push_86 (W : World) {ops : Array Oper} {rest : List Oper} {o : Oper} {a : Act} {Q : Exit → Act → World → Prop} (hgd : o.guard = none) (s x : Operand) (base : Nat) (v : Value) (xs : List Prt) (any : Bool) (f : Nat → Bool)
    (ho : o.op = .call { callee := .builtin .append, args := #[s, x], argTypes := #[80, 80] }) (hs : a.eval s = v) (hown : W.ownsRow base 86 257 v xs.length (prtCells xs))
    (hx : a.eval x = .slice (some ⟨W.heap.size, 0, none⟩) 1 1) (hn : xs.length ≤ 268435456) (hbase : base ≤ W.heap.size)
    (h : ∀ v' w', w'.ownsRow base 86 257 v' (xs ++ [(⟨any, f⟩ : Prt)]).length (prtCells (xs ++ [(⟨any, f⟩ : Prt)])) → W.grownBy w' v.ownBlock → wpList Tryz.prog ops Q rest (a.put o.dst v') w') :
    wpList Tryz.prog ops Q (o :: rest) a (W.alloc (.cells (prtArr any f) 86)) := by
  refine wpList_push W hgd s x 80 86 ho (.agg Tryz.zeroCells86) 257 257 Tryz.underlying80 (by kernel_rfl) (by rw [zero86]; exact prtArr_size _ _) (by decide) base v xs.length (prtCells xs) hs hown (prtArr any f) hx (prtArr_size _ _) (prtArr_one _ _) (by omega) (by omega) hbase ?_
  intro v' w' h1 h2
  refine h v' w' ?_ h2
  simpa [prtCells, prtCell, List.flatMap_append] using h1
end Go.Proofs.YtkaoechldamggaaGreatDoor
namespace Go.Proofs.YtkaoechldamggaaGreatDoor
open Go Go.RowKit
set_option maxRecDepth 100000

theorem fold_set (l : List Value) : ∀ (k : Nat) (base : Array Value), ((l.zipIdx k).foldl (fun a x => a.setIfInBounds x.2 x.1) base).size = base.size ∧
    ∀ i, ((l.zipIdx k).foldl (fun a x => a.setIfInBounds x.2 x.1) base)[i]? = if k ≤ i ∧ i < k + l.length ∧ i < base.size then l[i - k]? else base[i]? := by
  induction l with
  | nil => intro k base; refine ⟨by simp, fun i => ?_⟩; rw [if_neg (by simp; omega)]; simp
  | cons c l ih =>
    intro k base
    obtain ⟨h1, h2⟩ := ih (k + 1) (base.setIfInBounds k c)
    rw [List.zipIdx_cons, List.foldl_cons]
    refine ⟨by rw [h1]; simp, fun i => ?_⟩
    rw [h2 i]
    simp only [Array.size_setIfInBounds, List.length_cons]
    by_cases hb : i < base.size
    · by_cases hk : i = k
      · subst hk
        rw [if_neg (by omega), if_pos (by omega)]
        simp [hb]
      · by_cases hlt : k < i ∧ i < k + 1 + l.length
        · rw [if_pos (by omega), if_pos (by omega), show i - k = (i - (k + 1)) + 1 from by omega, List.getElem?_cons_succ]
        · rw [if_neg (by omega), if_neg (by omega), Array.getElem?_setIfInBounds_ne (by omega)]
    · rw [if_neg (by omega), if_neg (by omega), Array.getElem?_eq_none (by simp; omega), Array.getElem?_eq_none (by omega)]
theorem fold_whole (cs base : Array Value) (h : base.size = cs.size) : cs.zipIdx.foldl (fun (a : Array Value) (x : Value × Nat) => a.setIfInBounds (0 + x.2) x.1) base = cs := by
  rw [← Array.foldl_toList, Array.toList_zipIdx]
  simp only [Nat.zero_add]
  obtain ⟨h1, h2⟩ := fold_set cs.toList 0 base
  apply Array.ext_getElem?
  intro i
  rw [h2 i]
  by_cases hi : i < base.size
  · rw [if_pos (by simp; omega)]; simp
  · rw [if_neg (by omega), Array.getElem?_eq_none (by omega), Array.getElem?_eq_none (by omega)]

theorem build1 {t e : TypeId} {ops : Array Oper} {rest : List Oper} {o : Oper} {a : Act} {w : World} {Q : Exit → Act → World → Prop} (hg : o.guard = none) (x : Operand) (ho : o.op = .buildSlice t 1 #[(0, x)])
    (cells : Array Value) (hx : a.eval x = .agg cells) (ie : TypeInfo) (z : Value) (hu : Tryz.prog.underlying t = some (.slice e)) (hie : Tryz.prog.info? e = some ie) (hz : ie.zero = some z)
    (hsz : ie.size = cells.size) (hlt : 0 < cells.size) (hle : cells.size ≤ 2 ^ 24)
    (h : wpList Tryz.prog ops Q rest (a.put o.dst (.slice (some ⟨w.heap.size, 0, none⟩) 1 1)) (w.alloc (.cells cells e))) : wpList Tryz.prog ops Q (o :: rest) a w := by
  refine wpList_buildSlice hg t e 1 #[(0, x)] ho cells ie z hu hie hz (by rw [hsz]; omega) (by rw [hsz]; omega) ?_ h
  simp only [List.map_toArray, List.map_cons, List.map_nil, hx, Instr.fill, hsz, Nat.one_mul, Nat.zero_mul]
  rw [if_neg (by simp [Value.cells])]
  simp only [Value.cells]
  congr 1
  exact fold_whole cells _ (by simp)
theorem build137 {ops : Array Oper} {rest : List Oper} {o : Oper} {a : Act} {w : World} {Q : Exit → Act → World → Prop} (hg : o.guard = none) (x : Operand) (ho : o.op = .buildSlice 76 1 #[(0, x)])
    (any : Bool) (f : Nat → Bool) (hx : a.eval x = .agg (prtArr any f))
    (h : wpList Tryz.prog ops Q rest (a.put o.dst (.slice (some ⟨w.heap.size, 0, none⟩) 1 1)) (w.alloc (.cells (prtArr any f) 137))) : wpList Tryz.prog ops Q (o :: rest) a w := by
  obtain ⟨i, hi, h0, h1, h2⟩ := info_parts (show (Tryz.prog.info? 137).map (fun i => (i.zero, i.size, i.bytes)) = some (some (.agg Tryz.zeroCells137), 257, 257) by kernel_rfl)
  exact build1 hg x ho _ hx i _ Tryz.underlying76 hi h0 (by rw [h1, prtArr_size]) (by rw [prtArr_size]; omega) (by rw [prtArr_size]; omega) h
theorem build86 {ops : Array Oper} {rest : List Oper} {o : Oper} {a : Act} {w : World} {Q : Exit → Act → World → Prop} (hg : o.guard = none) (x : Operand) (ho : o.op = .buildSlice 80 1 #[(0, x)])
    (any : Bool) (f : Nat → Bool) (hx : a.eval x = .agg (prtArr any f))
    (h : wpList Tryz.prog ops Q rest (a.put o.dst (.slice (some ⟨w.heap.size, 0, none⟩) 1 1)) (w.alloc (.cells (prtArr any f) 86))) : wpList Tryz.prog ops Q (o :: rest) a w := by
  obtain ⟨i, hi, h0, h1, h2⟩ := info_parts (show (Tryz.prog.info? 86).map (fun i => (i.zero, i.size, i.bytes)) = some (some (.agg Tryz.zeroCells86), 257, 257) by kernel_rfl)
  exact build1 hg x ho _ hx i _ Tryz.underlying80 hi h0 (by rw [h1, prtArr_size]) (by rw [prtArr_size]; omega) (by rw [prtArr_size]; omega) h
end Go.Proofs.YtkaoechldamggaaGreatDoor
