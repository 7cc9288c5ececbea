/- Memory made by the call itself, as equations for the walk: 'make' of n cells of one kind. No conditions but lengths. -/
import Derived.Test.YtiejljlmbpgbiaaMem
import Derived.OwnWalk
import Derived.Laws.MakeOwn
import Derived.Laws.OwnMore
namespace Go.Proofs.Ytiejljlmbpgbiaa
open Go.RowKit
set_option maxRecDepth 100000
set_option linter.unusedVariables false
set_option linter.unusedSimpArgs false

theorem made_gen {α : Type} {enc : α → Value} {W w' : World} {n : Nat} {t : TypeId} {z : α} (h0 : 0 < n) (hc : (enc z).cells = #[enc z]) (hown : w'.ownsRow W.heap.size t 1 (.slice (some ⟨W.heap.size, 0, none⟩) n n) n (madeCells (enc z).cells (n * 1)).toList) :
    OB enc W.heap.size w' W.heap.size 0 n n (List.replicate n z) := by
  have e : (madeCells (enc z).cells (n * 1)).toList = List.replicate n (enc z) := by
    rw [hc, Nat.mul_one]
    have := toList_madeCells_one (enc z) n; simpa using this
  rw [e] at hown
  have h : Og enc W.heap.size w' (.slice (some ⟨W.heap.size, 0, none⟩) n n) (List.replicate n z) := by
    have h2 : w'.ownsRow W.heap.size t 1 (.slice (some ⟨W.heap.size, 0, none⟩) n n) (List.replicate n z).length ((List.replicate n z).map enc) := by
      rw [List.length_replicate, List.map_replicate]; exact hown
    exact Og.own h2
  obtain ⟨g, off, cap, e, ho⟩ := Og.ob h (by rw [List.length_replicate]; exact h0)
  simp only [Value.slice.injEq, Option.some.injEq, Addr.mk.injEq, and_true, List.length_replicate] at e
  obtain ⟨⟨e1, e2⟩, e3, e4⟩ := e
  subst e1 e2 e4
  rw [List.length_replicate] at ho; exact ho
/-- 'make' of n cells: what it gives, and what lies there. -/
theorem run_mk {α : Type} {enc : α → Value} (w : World) (t e : TypeId) (i : TypeInfo) (z : α) (h1 : Try.prog.underlying t = some (.slice e)) (h2 : Try.prog.info? e = some i) (h3 : i.zero = some (enc z)) (h4 : i.size = 1) (hc : (enc z).cells = #[enc z]) (n : Nat) (h0 : 0 < n) (b2 : i.bytes * n ≤ 281474976710656) (b3 : n ≤ maxLen) :
    ∃ w', (Instr.makeSlice t (.int .i64 n) (.int .i64 n)).run Try.prog w = .ok (.slice (some ⟨w.heap.size, 0, none⟩) n n) w' ∧ OB enc w.heap.size w' w.heap.size 0 n n (List.replicate n z) ∧ w.grownBy w' none ∧ w'.heap.size = w.heap.size + 1 := by
  obtain ⟨w', hr, r1, r2⟩ := run_make_full (P := Try.prog) w w.heap.size t e i (enc z) 1 h1 h2 h3 h4 .i64 .i64 n b2 b3 (Nat.le_refl _)
  refine ⟨w', hr, made_gen h0 hc r1, r2, ?_⟩
  have hb : (i.bytes : Int) * (n : Int) ≤ 281474976710656 := by
    have h : ((i.bytes * n : Nat) : Int) ≤ 281474976710656 := by omega
    rwa [Int.natCast_mul] at h
  have hr' := run_make (P := Try.prog) w t e i (enc z) h1 h2 h3 .i64 .i64 n n (by omega) (Int.le_refl _) hb (by unfold maxLen at b3; omega)
  rw [hr] at hr'
  simp only [Result.ok.injEq] at hr'
  rw [hr'.2]; simp
theorem madeCells_two (z : Value) (n : Nat) : madeCells #[z, z] n = Array.replicate n z := by
  refine Array.ext (by simp [madeCells]) fun i h1 h2 => ?_
  have h2' : i % 2 < 2 := Nat.mod_lt _ (by decide)
  simp only [madeCells, Array.getElem_map, Array.getElem_range, Array.getElem_replicate]
  rcases (show i % 2 = 0 ∨ i % 2 = 1 by omega) with h | h
  · show #[z, z][i % 2]! = z
    rw [h]; rfl
  · show #[z, z][i % 2]! = z
    rw [h]; rfl
/-- A block of equal cells that was just made. -/
theorem made_block {α : Type} {enc : α → Value} (w : World) (m : Nat) (z : α) (t : TypeId) (hm : m ≤ maxLen) : OB enc w.heap.size (w.alloc (.cells (Array.replicate m (enc z)) t)) w.heap.size 0 m m (List.replicate m z) := by
  have hb := heap_alloc_new w (.cells (Array.replicate m (enc z)) t)
  refine ⟨by simp, Nat.le_refl _, hm, Nat.le_refl _, by simp, fun i hi => ⟨?_, frozen_of_row _ _ _ _ _ hb⟩⟩
  rw [cell_of_row _ _ _ _ _ _ hb]
  simp only [List.length_replicate] at hi
  simp [hi]
/-- 'make' of n pairs of cells. -/
theorem run_mk2 {α : Type} {enc : α → Value} (w : World) (t e : TypeId) (i : TypeInfo) (z : α) (h1 : Try.prog.underlying t = some (.slice e)) (h2 : Try.prog.info? e = some i) (zv : Value) (h3 : i.zero = some zv) (h4 : i.size = 2) (hc : zv.cells = #[enc z, enc z]) (n : Nat) (b2 : i.bytes * n ≤ 281474976710656) (b3 : 2 * n ≤ maxLen) :
    ∃ w', (Instr.makeSlice t (.int .i64 n) (.int .i64 n)).run Try.prog w = .ok (.slice (some ⟨w.heap.size, 0, none⟩) n n) w' ∧ OB enc w.heap.size w' w.heap.size 0 (2 * n) (2 * n) (List.replicate (2 * n) z) ∧ Below w.heap.size w w' ∧ w'.heap.size = w.heap.size + 1 := by
  have hb : (i.bytes : Int) * (n : Int) ≤ 281474976710656 := by
    have h : ((i.bytes * n : Nat) : Int) ≤ 281474976710656 := by omega
    rwa [Int.natCast_mul] at h
  have hr := run_make (P := Try.prog) w t e i zv h1 h2 h3 .i64 .i64 n n (by omega) (Int.le_refl _) hb (by unfold maxLen at b3; omega)
  rw [hc, h4, Int.toNat_natCast, madeCells_two, Nat.mul_comm n 2] at hr
  exact ⟨_, hr, made_block w (2 * n) z e b3, (Below.refl _ _).alloc (Nat.le_refl _) _, by simp⟩
end Go.Proofs.Ytiejljlmbpgbiaa
