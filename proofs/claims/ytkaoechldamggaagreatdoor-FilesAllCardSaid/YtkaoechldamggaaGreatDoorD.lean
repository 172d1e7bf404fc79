/- The ends of ranges: files.end and the reference's bound. -/
import Derived.Test.YtkaoechldamggaaGreatDoorC
import Derived.Test.YtkaoechldamggaaGreatDoorM
namespace Go.Proofs.YtkaoechldamggaaGreatDoor
open Go Go.RowKit
set_option maxRecDepth 100000

def retEnd : Option (UInt8 × Nat) → Value
  | none => .tuple #[.int .u8 0, .int .i64 0, .bool false]
  | some (c, n) => .tuple #[.int .u8 (c.toNat : Int), .int .i64 (n : Int), .bool true]

theorem eqb_true {x : UInt8} {n : Nat} (hn : n < 256) (h : ((x.toNat : Int) == (n : Int)) = true) : x = UInt8.ofNat n := (u8_is x n hn).1 (by simpa using h)
theorem eqb_false {x : UInt8} {n : Nat} (hn : n < 256) (h : ((x.toNat : Int) == (n : Int)) = false) : x ≠ UInt8.ofNat n := fun e => by
  have := (u8_is x n hn).2 e
  simp [this] at h

theorem endB_none (p : Bs) (k : Nat) (h : p.length ≤ k) : endB p k = none := by unfold endB; rw [List.getElem?_eq_none h]
theorem endB_bad (p : Bs) (k : Nat) (x : UInt8) (h : k < p.length) (hx : p[k] = x) (hb : x = 45 ∨ x = 93) : endB p k = none := by
  unfold endB; rw [List.getElem?_eq_getElem h, hx]; simp [hb]
theorem endB_esc (p : Bs) (k : Nat) (h : k < p.length) (hx : p[k] = 92) (h1 : k + 1 < p.length) : endB p k = some (p[k + 1], k + 2) := by
  unfold endB; rw [List.getElem?_eq_getElem h, hx]; simp [h1]
theorem endB_esc0 (p : Bs) (k : Nat) (h : k < p.length) (hx : p[k] = 92) (h1 : p.length ≤ k + 1) : endB p k = none := by
  unfold endB; rw [List.getElem?_eq_getElem h, hx]; simp [List.getElem?_eq_none h1]
theorem endB_one (p : Bs) (k : Nat) (x : UInt8) (h : k < p.length) (hx : p[k] = x) (h1 : x ≠ 45) (h2 : x ≠ 93) (h3 : x ≠ 92) : endB p k = some (x, k + 1) := by
  unfold endB; rw [List.getElem?_eq_getElem h, hx]; simp [h1, h2, h3]

theorem ret_eq {a b : Value} (h : a = b) : Ending.returned a = .returned b := by rw [h]
theorem retEnd_some {c : UInt8} {n : Nat} {m : Int} (h : m = n) : Value.tuple #[.int .u8 (c.toNat : Int), .int .i64 m, .bool true] = retEnd (some (c, n)) := by rw [h]; rfl

theorem pend (p : Bs) (k : Nat) (hp : p.length ≤ 1099511627776) (hk : k ≤ 1099511627776) (kk : Int) (hkk : kk = k) (w : World) :
    Calls Tryz.prog 86 #[.string ⟨p.toArray⟩, .int .i64 kk] w fun e w' => e = .returned (retEnd (endB p k)) ∧ w = w' := by
  subst hkk
  obtain ⟨r, hr⟩ : ∃ r, endB p k = r := ⟨_, rfl⟩
  rw [hr]
  have HR := Lib.hid hr
  clear hr
  by_cases hlt : k < p.length
  · obtain ⟨x, hx⟩ : ∃ x, p[k] = x := ⟨_, rfl⟩
    have hbx : ∀ h, (ByteArray.mk p.toArray)[k]'h = x := fun _ => hx
    have HX := Lib.hid hx
    clear hx
    cases h45 : ((x.toNat : Int) == 45)
    · cases h93 : ((x.toNat : Int) == 93)
      · cases h92 : ((x.toNat : Int) == 92)
        · have e := endB_one p k x hlt HX.out (eqb_false (n := 45) (by omega) h45) (eqb_false (n := 93) (by omega) h93) (eqb_false (n := 92) (by omega) h92)
          rw [← HR.out, e]
          go_enter Tryz.func86, Tryz.ntmps86
          go_wp2_with fail
          go_ret3
          exact ⟨ret_eq (retEnd_some (by omega)), rfl⟩
        · have hX : p[k] = 92 := HX.out.trans (eqb_true (n := 92) (by omega) h92)
          by_cases h1 : k + 1 < p.length
          · have e := endB_esc p k hlt hX h1
            rw [← HR.out, e]
            go_enter Tryz.func86, Tryz.ntmps86
            go_wp2_with fail
            go_ret3
            exact ⟨ret_eq (retEnd_some (by omega)), rfl⟩
          · have e := endB_esc0 p k hlt hX (by omega)
            rw [← HR.out, e]
            go_enter Tryz.func86, Tryz.ntmps86
            go_wp2_with fail
            go_ret3
            exact ⟨rfl, rfl⟩
      · have e := endB_bad p k x hlt HX.out (.inr (eqb_true (n := 93) (by omega) h93))
        rw [← HR.out, e]
        go_enter Tryz.func86, Tryz.ntmps86
        go_wp2_with fail
        go_ret3
        exact ⟨rfl, rfl⟩
    · have e := endB_bad p k x hlt HX.out (.inl (eqb_true (n := 45) (by omega) h45))
      rw [← HR.out, e]
      go_enter Tryz.func86, Tryz.ntmps86
      go_wp2_with fail
      go_ret3
      exact ⟨rfl, rfl⟩
  · have e := endB_none p k (by omega)
    rw [← HR.out, e]
    go_enter Tryz.func86, Tryz.ntmps86
    go_wp2_with fail
    go_ret3
    exact ⟨rfl, rfl⟩
theorem rbound (p : Bs) (k : Nat) (hp : p.length ≤ 1099511627776) (hk : k ≤ 1099511627776) (kk : Int) (hkk : kk = k) (w : World) :
    Calls Tryz.prog 87 #[.string ⟨p.toArray⟩, .int .i64 kk] w fun e w' => e = .returned (retEnd (endB p k)) ∧ w = w' := by
  subst hkk
  obtain ⟨r, hr⟩ : ∃ r, endB p k = r := ⟨_, rfl⟩
  rw [hr]
  have HR := Lib.hid hr
  clear hr
  by_cases hlt : k < p.length
  · obtain ⟨x, hx⟩ : ∃ x, p[k] = x := ⟨_, rfl⟩
    have hbx : ∀ h, (ByteArray.mk p.toArray)[k]'h = x := fun _ => hx
    have HX := Lib.hid hx
    clear hx
    cases h45 : ((x.toNat : Int) == 45)
    · cases h93 : ((x.toNat : Int) == 93)
      · cases h92 : ((x.toNat : Int) == 92)
        · have e := endB_one p k x hlt HX.out (eqb_false (n := 45) (by omega) h45) (eqb_false (n := 93) (by omega) h93) (eqb_false (n := 92) (by omega) h92)
          rw [← HR.out, e]
          go_enter Tryz.func87, Tryz.ntmps87
          go_wp2_with fail
          go_ret3
          exact ⟨ret_eq (retEnd_some (by omega)), rfl⟩
        · have hX : p[k] = 92 := HX.out.trans (eqb_true (n := 92) (by omega) h92)
          by_cases h1 : k + 1 < p.length
          · have e := endB_esc p k hlt hX h1
            rw [← HR.out, e]
            go_enter Tryz.func87, Tryz.ntmps87
            go_wp2_with fail
            go_ret3
            exact ⟨ret_eq (retEnd_some (by omega)), rfl⟩
          · have e := endB_esc0 p k hlt hX (by omega)
            rw [← HR.out, e]
            go_enter Tryz.func87, Tryz.ntmps87
            go_wp2_with fail
            go_ret3
            exact ⟨rfl, rfl⟩
      · have e := endB_bad p k x hlt HX.out (.inr (eqb_true (n := 93) (by omega) h93))
        rw [← HR.out, e]
        go_enter Tryz.func87, Tryz.ntmps87
        go_wp2_with fail
        go_ret3
        exact ⟨rfl, rfl⟩
    · have e := endB_bad p k x hlt HX.out (.inl (eqb_true (n := 45) (by omega) h45))
      rw [← HR.out, e]
      go_enter Tryz.func87, Tryz.ntmps87
      go_wp2_with fail
      go_ret3
      exact ⟨rfl, rfl⟩
  · have e := endB_none p k (by omega)
    rw [← HR.out, e]
    go_enter Tryz.func87, Tryz.ntmps87
    go_wp2_with fail
    go_ret3
    exact ⟨rfl, rfl⟩
end Go.Proofs.YtkaoechldamggaaGreatDoor
