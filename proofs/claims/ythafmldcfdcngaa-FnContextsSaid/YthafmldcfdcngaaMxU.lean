/- What the program learns. Conditions: those of the mixture, and that what is learned are numbers. -/
import Derived.Test.YthafmldcfdcngaaMxT
namespace Go.Proofs.Ythafmldcfdcngaa
open Go.RowKit
set_option maxRecDepth 100000
set_option linter.unusedVariables false
set_option linter.unusedSimpArgs false

/-- The first k learned weights. -/
def ulP (ws ss : List Nat) (M k : Nat) : List Nat := (List.range k).map fun i => ulW (gD ws i) M (gD ss i)
theorem ulP_len (ws ss : List Nat) (M k : Nat) : (ulP ws ss M k).length = k := by simp [ulP]
theorem ulP_snoc (ws ss : List Nat) (M k : Nat) : ulP ws ss M (k + 1) = ulP ws ss M k ++ [ulW (gD ws k) M (gD ss k)] := by simp [ulP, List.range_succ]
theorem ownF_low {B B' : Nat} {w : World} {v : Value} {xs : List Nat} (hb : B' ≤ B) (h : OwnF B w v xs) : OwnF B' w v xs :=
  ⟨h.1, h.2.imp id fun ⟨g, cap, cur, a, b, c⟩ => ⟨g, cap, cur, a, Nat.le_trans hb b, c⟩⟩
/-- What is learned are numbers. -/
structure LearnOk (ws ps : List Nat) (bit : Bool) : Prop where
  s0 : floatBits .sub .f32 0 (mcW ws ps) = some (fsub .f32 0 (mcW ws ps))
  s1 : floatBits .sub .f32 1065353216 (mcW ws ps) = some (fsub .f32 1065353216 (mcW ws ps))
  m : ∀ i, i < ws.length → floatBits .mul .f32 (msW bit (mcW ws ps)) (gD (ps.map stW) i) = some (fmul .f32 (msW bit (mcW ws ps)) (gD (ps.map stW) i))
  r : ∀ i, i < ws.length → floatBits .mul .f32 1040187392 (fmul .f32 (msW bit (mcW ws ps)) (gD (ps.map stW) i)) = some (fmul .f32 1040187392 (fmul .f32 (msW bit (mcW ws ps)) (gD (ps.map stW) i)))
  a : ∀ i, i < ws.length → floatBits .add .f32 (gD ws i) (fmul .f32 1040187392 (fmul .f32 (msW bit (mcW ws ps)) (gD (ps.map stW) i))) = some (ulW (gD ws i) (msW bit (mcW ws ps)) (gD (ps.map stW) i))
  n : AllN (ulP ws (ps.map stW) (msW bit (mcW ws ps)) ws.length)
set_option maxHeartbeats 4000000 in
theorem mixLearn_any (v u : Value) (ws ps : List Nat) (bit : Bool) (w : World) (h : Rg eF w v ws) (h' : Rg eF w u ps) (hm : MixOk ws ps) (hl : LearnOk ws ps bit) :
    Calls Try.prog 10 #[v, u, .bool bit, .float .f32 1040187392] w fun e w' => ∃ v', e = .returned (.tuple #[v', .bool true]) ∧ OwnF w.heap.size w' v' (ulP ws (ps.map stW) (msW bit (mcW ws ps)) ws.length) ∧ Below w.heap.size w w' := by
  obtain ⟨q, nq, q1, q2⟩ := hm.q
  have hs := stretch_any v u ws ps w h h' hm.l hm.l1 hm.l4 hm.w hm.p
  have hmx : ∀ W v', Below w.heap.size w W → OwnF w.heap.size W v' (ps.map stW) → Calls Try.prog 21 #[v, v'] W fun e w' => e = .returned (.float .f32 (mcW ws ps)) ∧ W = w' := fun W v' hB ho =>
    mix_any v v' ws (ps.map stW) W (h.below hB) ho.og.rg (by rw [List.length_map]; exact hm.l) hm.ok q nq q1 q2
  have HR := Lib.hid h
  have lm := hl.m
  have lr := hl.r
  have la := hl.a
  have ln := hl.n
  have hsl : (ps.map stW).length = ws.length := by rw [List.length_map]; exact hm.l.symm
  have o0 := run_op (P := Try.prog) hl.s0
  have o1 := run_op (P := Try.prog) hl.s1
  have hms : msW bit (mcW ws ps) = if bit then fsub .f32 1065353216 (mcW ws ps) else fsub .f32 0 (mcW ws ps) := rfl
  obtain ⟨ao, cap, rfl⟩ := h.shape
  have hlenI := h.len
  have l4 : ws.length ≤ 4 := by rw [hm.l]; exact hm.l4
  clear nq h h' hm hl
  generalize mcW ws ps = m0 at *
  generalize ps.map stW = ss at *
  have HMS := Lib.hid hms
  clear hms
  have main : ∀ (v1 : Value) (w1 : World) (hB1 : Below w.heap.size w w1) (ho : OwnF w.heap.size w1 v1 ss), True := fun _ _ _ _ => trivial
  generalize hM : msW bit m0 = M at *
  have hM2 : M = if bit then fsub .f32 1065353216 m0 else fsub .f32 0 m0 := HMS.out
  clear HMS main hM
  have Lm := Lib.hid lm
  have Lr := Lib.hid lr
  have La := Lib.hid la
  have Ln := Lib.hid ln
  clear lm lr la ln
  cases bit
  all_goals
    simp only [if_true, Bool.false_eq_true, if_false] at hM2
    first | rw [← hM2] at o0 | rw [← hM2] at o1
    clear hM2
    go_enter Try.func10, Try.ntmps10
    go_wp2_with (first | simp only [o0] | simp only [o1] | (go_at_call 20; refine hs.mono ?_; rintro e w1 ⟨v1, rfl, ho, hB1⟩) | (go_at_call 21; refine (hmx _ _ hB1 ho).mono ?_; rintro e w2 ⟨rfl, rfl⟩))
    have hrg := ho.og.rg
    obtain ⟨ao0, cap0, rfl⟩ := ho.shape
    rw [hsl] at hrg ⊢
    clear hs hmx ho
    have hs0 := hB1.size
    have HB1 := Lib.hid hB1
    have HG := Lib.hid hrg
    clear hB1 hrg
    go_loopw [13, 36] (fun o kv wr => ∃ k : Nat, kv = .int .i64 k ∧ k ≤ ws.length ∧ OwnF w1.heap.size wr o (ulP ws ss M k) ∧ Below w1.heap.size w1 wr) (fun _ kv _ => ws.length - (intOf kv).toNat)
    case atStart => exact ⟨0, rfl, Nat.zero_le _, ownF_empty w1 _ (Nat.le_refl _), by go_grown⟩
    case round =>
      obtain ⟨k, rfl, hk, hown, hB⟩ := hrel
      obtain ⟨ao1, cap1, rfl⟩ := hown.shape
      have hs1 := hB.size
      by_cases hkm : k < ws.length
      · have hkm' : k < ss.length := by omega
        obtain ⟨b, off, rfl, -, hcs⟩ := (HR.out.below (bnext HB1.out hB)).cells (by omega)
        have hc := hcs k hkm
        obtain ⟨b', off', rfl, -, hcs'⟩ := (HG.out.below hB).cells (by omega)
        have hc' := hcs' k hkm'
        clear hcs hcs'
        have e1 : gD ws k = ws[k] := by simp [gD, hkm]
        have e2 : gD ss k = ss[k] := by simp [gD, hkm']
        have p1 := run_op (P := Try.prog) (Lm.out k hkm)
        have p2 := run_op (P := Try.prog) (Lr.out k hkm)
        have p3 := run_op (P := Try.prog) (La.out k hkm)
        have Hsn := Lib.hid (ulP_snoc ws ss M k)
        have Hl := Lib.hid (ulP_len ws ss M k)
        rw [e1] at p3
        rw [e2] at p1 p2 p3
        rw [e1, e2] at Hsn
        have HO := Lib.hid hown
        clear hown e1 e2
        generalize ws[k] = x at *
        generalize ss[k] = y at *
        go_wp2_with (first | simp only [p1] | simp only [p2] | simp only [p3] | (at_builtin; go_must (refine app_flts rfl _ _ rfl w1.heap.size w1.heap.size (Nat.le_refl _) (.slice ao1 (ulP ws ss M k).length cap1) (ulP ws ss M k) rfl HO.out hB _ _ [ulW x M y] rfl rfl (by rw [Hl.out]; simp; omega) hs1 ?_)))
        intro v' w' hown' hB' hg'
        rw [← Hsn.out] at hown'
        obtain ⟨ao2, cap2, rfl⟩ := hown'.shape
        clear hg' hB HO
        go_wp2
        go_roundw
        case rel => exact ⟨k + 1, by go_num, by omega, hown', hB'⟩
        case measure => simp [intOf]; omega
      · obtain rfl : k = ws.length := by omega
        have hf2 := areFin_yes _ _ _ hown.og.rg Ln.out
        rw [ulP_len] at hf2 hown ⊢
        have HO := Lib.hid hown
        have HB := Lib.hid hB
        clear hown hB
        go_wp2_with (go_at_call 22; refine hf2.mono ?_; rintro e w' ⟨rfl, rfl⟩)
        go_ret2
        exact ⟨_, rfl, ownF_low hs0 HO.out, bnext HB1.out HB.out⟩
end Go.Proofs.Ythafmldcfdcngaa
