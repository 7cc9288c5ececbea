/- LongsShared: how many bits each of some texts has. No conditions but that the slices read. -/
import Derived.Test.YtbhconogaoghmaaRngT
import Derived.Test.YtbhconogaoghmaaGrid
namespace Go.Proofs.Ytbhconogaoghmaa
open Go.RowKit
set_option maxRecDepth 100000
set_option linter.unusedVariables false
set_option linter.unusedSimpArgs false

def lgOk (a : Int) (zss : List (List Int)) (c : Int) : Bool := sgn a && (decide (zss.length ≤ 16) && (inB c 1 8 && zss.all (gwOk a)))
def lgF (a : Int) (zss : List (List Int)) : List Int := zss.map fun zs => ((gwZ a zs).length : Int)
def lgZ (a : Int) (zss : List (List Int)) (c : Int) : List Int := if lgOk a zss c = true then lgF a zss else []
theorem gwZ_len2 (n : Int) (zs : List Int) : (gwZ n zs).length ≤ 1024 := by
  unfold gwZ; split
  · rename_i h; unfold gwOk at h; simp only [Bool.and_eq_true] at h; exact rb_len h.2
  · simp
theorem lgF_i64 (a : Int) (zss : List (List Int)) : AllI64 (lgF a zss) := by
  intro z hz
  obtain ⟨zs, _, rfl⟩ := List.mem_map.1 hz
  have := gwZ_len2 a zs
  constructor <;> omega
theorem lgZ_len (a : Int) (zss : List (List Int)) (c : Int) : (lgZ a zss c).length ≤ 16777216 := by
  unfold lgZ; split
  · rename_i h; simp only [lgOk, Bool.and_eq_true, decide_eq_true_eq] at h; simp [lgF]; omega
  · simp
set_option maxHeartbeats 2000000 in
theorem implLg_any (a : Int) (v : Value) (ps : List Row) (c : Int) (w : World) (h : SS w v ps) :
    Calls Try.prog 18 #[.int .i64 a, v, .int .i64 c] w fun e w' => ∃ v', e = .returned (.tuple #[v', .bool (lgOk a (ps.map Prod.snd) c)]) ∧ OI w.heap.size w' v' (lgZ a (ps.map Prod.snd) c) ∧ Below w.heap.size w w' := by
  have hlen := h.len
  obtain ⟨ao, cap, rfl⟩ := h.shape
  have Hml := Lib.hid (show (ps.map Prod.snd).length = ps.length by simp)
  by_cases hs : sgn a = true
  · by_cases hl : ps.length ≤ 16
    · have hl' : ((ps.length : Nat) : Int) ≤ 16 := by omega
      by_cases hi : inB c 1 8 = true
      · obtain ⟨⟨_, _, e, h1, h2, h3⟩, hr⟩ := h
        simp only [Value.slice.injEq, true_and] at e
        obtain ⟨rfl, rfl⟩ := e
        have Hr := Lib.hid hr
        have H3 := Lib.hid h3
        have HOk := Lib.hid (show lgOk a (ps.map Prod.snd) c = (ps.map Prod.snd).all (gwOk a) by rw [lgOk, hs, hi, Hml.out, decide_eq_true hl]; simp)
        clear hr h3
        go_enter Try.func18, Try.ntmps18
        go_wp2_with fail
        refine (areSigns_any _ _).mono ?_
        rw [hs]
        rintro e w' ⟨rfl, rfl⟩
        go_wp2_with fail
        refine (within_any _ _ _ _).mono ?_
        rw [hi]
        rintro e w' ⟨rfl, rfl⟩
        go_wp2
        go_loopw [8, 29] (fun ov iv wr => ∃ k : Nat, iv = .int .i64 k ∧ k ≤ ps.length ∧ ((ps.map Prod.snd).take k).all (gwOk a) = true ∧ OwnI w.heap.size wr ov (lgF a ((ps.map Prod.snd).take k)) ∧ Below w.heap.size w wr) (fun _ iv _ => ps.length - (intOf iv).toNat)
        case atStart => exact ⟨0, rfl, Nat.zero_le _, rfl, own_empty w _ (Nat.le_refl _), by go_grown⟩
        case round =>
          obtain ⟨k, rfl, hk, hall, hown, hB⟩ := hrel
          have Hall := Lib.hid hall
          clear hall
          obtain ⟨aoo, capo, rfl⟩ := hown.shape
          have Hown := Lib.hid hown
          clear hown
          by_cases hlt : k < ps.length
          · obtain ⟨b, off, rfl, hc⟩ := H3.out k hlt
            have hri := (Hr.out _ (List.getElem_mem hlt)).below hB
            replace hc := cnext hB hc
            have Htk := Lib.hid (show (ps.map Prod.snd).take (k + 1) = (ps.map Prod.snd).take k ++ [ps[k].2] by rw [List.take_succ_eq_append_getElem (by simpa using hlt), List.getElem_map])
            have Hmem := Lib.hid (show ps[k].2 ∈ ps.map Prod.snd from List.mem_map_of_mem (List.getElem_mem hlt))
            generalize ps[k] = p at *
            obtain ⟨x, zs⟩ := p
            replace hc : wr.cell? ⟨b, off + k, none⟩ = some x := hc
            replace hri : RI wr x zs := hri
            have hkI : (k : Int) < (ps.length : Int) := by omega
            have HG := Lib.hid (implGwb_any a x zs wr hri)
            have Htk2 := Lib.hid (show lgF a ((ps.map Prod.snd).take k) ++ [((gwZ a zs).length : Int)] = lgF a ((ps.map Prod.snd).take (k + 1)) by rw [Htk.out, lgF, lgF, List.map_append]; rfl)
            have Hlf := Lib.hid (show (lgF a ((ps.map Prod.snd).take k)).length ≤ 16 by simp [lgF]; omega)
            have hsz := hB.size
            clear hri
            by_cases hg : gwOk a zs = true
            · rw [hg] at HG
              have Hal2 := Lib.hid (show ((ps.map Prod.snd).take (k + 1)).all (gwOk a) = true by rw [Htk.out, List.all_append, Hall.out]; simp [hg])
              clear hg
              go_wp2_with fail
              refine HG.out.mono ?_
              rintro e w2 ⟨v2, rfl, ho2, hb2⟩
              obtain ⟨ao2, cap2, rfl⟩ := ho2.rg.shape
              have hown2 : OwnI w.heap.size w2 (.slice aoo (lgF a ((ps.map Prod.snd).take k)).length capo) (lgF a ((ps.map Prod.snd).take k)) := own_below hb2 Hown.out
              have hB2 := bnext hB hb2
              have hsz2 := hB2.size
              clear ho2 hb2 hc
              generalize lgF a ((ps.map Prod.snd).take k) = out at *
              generalize (gwZ a zs).length = L at *
              go_wp2_with (at_builtin; go_must (refine app_ints rfl _ _ rfl w.heap.size w.heap.size (Nat.le_refl _) (.slice aoo out.length capo) out rfl hown2 hB2 _ _ [(L : Int)] rfl rfl (by have := Hlf.out; simp; omega) hsz2 ?_))
              intro v3 w3 hown3 hB3 _
              rw [Htk2.out] at hown3
              clear hown2 hB2
              go_wp2
              go_roundw
              case rel => exact ⟨k + 1, by go_num, by omega, Hal2.out, hown3, hB3⟩
              case measure => simp [intOf]; omega
            · have hg : gwOk a zs = false := by simpa using hg
              rw [hg] at HG
              have hbad : lgOk a (ps.map Prod.snd) c = false := by
                rw [HOk.out]
                refine Bool.eq_false_iff.2 fun h => ?_
                have h9 := List.all_eq_true.1 h _ Hmem.out
                rw [hg] at h9; cases h9
              have HB1 := Lib.hid hbad
              have HZ := Lib.hid (show lgZ a (ps.map Prod.snd) c = [] by rw [lgZ, if_neg (by rw [hbad]; decide)])
              clear hg hbad
              go_wp2_with fail
              refine HG.out.mono ?_
              rintro e w2 ⟨v2, rfl, ho2, hb2⟩
              have hB2 := bnext hB hb2
              clear ho2 hb2 hc
              go_wp2
              go_ret2
              exact ⟨_, ret2 rfl (vb HB1.out.symm), by rw [HZ.out]; exact OI.nil _ _, hB2⟩
          · have hke : k = ps.length := by omega
            have hT : (ps.map Prod.snd).take k = ps.map Prod.snd := List.take_of_length_le (by rw [Hml.out]; omega)
            have HB1 := Lib.hid (show lgOk a (ps.map Prod.snd) c = true by rw [HOk.out, ← hT]; exact Hall.out)
            have HZ := Lib.hid (show lgZ a (ps.map Prod.snd) c = lgF a ((ps.map Prod.snd).take k) by rw [lgZ, if_pos HB1.out, hT])
            have Hoi := Lib.hid (OwnI.oi Hown.out (lgF_i64 a _))
            clear hT hke
            go_wp2
            go_ret2
            exact ⟨_, ret2 rfl (vb HB1.out.symm), by rw [HZ.out]; exact Hoi.out, hB⟩
      · have hi : inB c 1 8 = false := by simpa using hi
        have HB1 := Lib.hid (show lgOk a (ps.map Prod.snd) c = false by rw [lgOk, hi]; simp)
        have HZ := Lib.hid (show lgZ a (ps.map Prod.snd) c = [] by rw [lgZ, if_neg (by rw [HB1.out]; decide)])
        go_enter Try.func18, Try.ntmps18
        go_wp2_with fail
        refine (areSigns_any _ _).mono ?_
        rw [hs]
        rintro e w' ⟨rfl, rfl⟩
        go_wp2_with fail
        refine (within_any _ _ _ _).mono ?_
        rw [hi]
        rintro e w' ⟨rfl, rfl⟩
        go_wp2
        go_ret2
        exact ⟨_, ret2 rfl (vb HB1.out.symm), by rw [HZ.out]; exact OI.nil _ _, Below.refl _ _⟩
    · have hl' : ¬ ((ps.length : Nat) : Int) ≤ 16 := by omega
      have HB1 := Lib.hid (show lgOk a (ps.map Prod.snd) c = false by rw [lgOk, Hml.out, decide_eq_false hl]; simp)
      have HZ := Lib.hid (show lgZ a (ps.map Prod.snd) c = [] by rw [lgZ, if_neg (by rw [HB1.out]; decide)])
      go_enter Try.func18, Try.ntmps18
      go_wp2_with fail
      refine (areSigns_any _ _).mono ?_
      rw [hs]
      rintro e w' ⟨rfl, rfl⟩
      go_wp2
      go_ret2
      exact ⟨_, ret2 rfl (vb HB1.out.symm), by rw [HZ.out]; exact OI.nil _ _, Below.refl _ _⟩
  · have hs : sgn a = false := by simpa using hs
    have HB1 := Lib.hid (show lgOk a (ps.map Prod.snd) c = false by rw [lgOk, hs]; simp)
    have HZ := Lib.hid (show lgZ a (ps.map Prod.snd) c = [] by rw [lgZ, if_neg (by rw [HB1.out]; decide)])
    go_enter Try.func18, Try.ntmps18
    go_wp2_with fail
    refine (areSigns_any _ _).mono ?_
    rw [hs]
    rintro e w' ⟨rfl, rfl⟩
    go_wp2
    go_ret2
    exact ⟨_, ret2 rfl (vb HB1.out.symm), by rw [HZ.out]; exact OI.nil _ _, Below.refl _ _⟩
end Go.Proofs.Ytbhconogaoghmaa
