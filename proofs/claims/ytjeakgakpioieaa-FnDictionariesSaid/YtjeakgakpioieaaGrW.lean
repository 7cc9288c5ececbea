/- Grown pairs, in the program: growPairs. Conditions: a text of at most 64 numbers. -/
import Derived.Test.YtjeakgakpioieaaGrM
import Derived.Maps.OwnOps
import Derived.Handy
namespace Go.Proofs.Ytjeakgakpioieaa
open Go.RowKit Go.WideShapes Go.ChangeShapes Go.Maps
set_option maxRecDepth 100000
set_option linter.unusedVariables false
set_option linter.unusedSimpArgs false

theorem zero_int (w : World) : (zeroValue 2).run Try.prog w = .ok (.int .i64 0) w := by kernel_rfl
set_option maxHeartbeats 2000000 in
theorem growPairs_any (v : Value) (zs : List Int) (w : World) (h : RI w v zs) (hl : zs.length ≤ 64) :
    Calls Try.prog 21 #[v] w fun e w' => ∃ v', e = .returned v' ∧ OI w.heap.size w' v' (gpF zs [] [] 0) ∧ Below w.heap.size w w' := by
  obtain ⟨hz, ao, cap, rfl, h1, h2, h3⟩ := h
  have Hz := Lib.hid hz
  have H3 := Lib.hid h3
  clear hz h3
  have hmm := @run_makeMap Try.prog
  go_enter Try.func21, Try.ntmps21
  go_wp2_with fail
  go_loopw [4, 5, 14] (fun ov nv iv wr => ∃ (k : Nat) (ds : List (Int × Int)) (D : DataW Unit) (out : List Int) (num : Int), iv = .int .i64 k ∧ nv = .int .i64 num ∧ k ≤ zs.length ∧ gpF (zs.drop k) ds out num = gpF zs [] [] 0 ∧ MapD ds D ∧ (∀ d ∈ ds, In64 d) ∧ wr.ownsMap Try.prog 59 (plainElem Try.prog 2) w.heap.size ds.length D ∧ OwnI (w.heap.size + 1) wr ov out ∧ AllI64 out ∧ 0 ≤ num ∧ num ≤ ds.length ∧ ds.length ≤ k ∧ out.length ≤ 2 * k ∧ Below w.heap.size w wr) (fun _ _ iv _ => zs.length - (intOf iv).toNat)
  case atStart => exact ⟨0, [], .map [], [], 0, rfl, rfl, Nat.zero_le _, rfl, .nil, (fun d hd => by cases hd), (World.ownsMap_made w _ _ _).alloc _, by have := own_empty (w.alloc (.map #[] 0)) (w.heap.size + 1) (by simp); simpa using this, (fun z hz => by cases hz), by omega, by simp, by simp, by simp, by go_grown⟩
  case round =>
    obtain ⟨k, ds, D, out, num, rfl, rfl, hk, hq, hmd, hds, hmap, hown, ho64, hn0, hn1, hdk, hol, hB⟩ := hrel
    obtain ⟨aoo, capo, rfl⟩ := hown.shape
    have Hq := Lib.hid hq
    have Hmd := Lib.hid hmd
    have Hds := Lib.hid hds
    have Ho64 := Lib.hid ho64
    clear hq hmd hds ho64
    by_cases hlt : k < zs.length
    · obtain ⟨b, off, rfl, hc⟩ := H3.out k hlt
      replace hc := cnext hB hc
      have hx := Hz.out zs[k] (List.getElem_mem hlt)
      have Hd := Lib.hid (show gpF (zs.drop k) ds out num = gpF (zs[k] :: zs.drop (k + 1)) ds out num by rw [List.drop_eq_getElem_cons hlt])
      generalize zs[k] = x at *
      have hnum : I64 num := ⟨by omega, by omega⟩
      have hfa := Hmd.out.facts kl_inj Hds.out
      have hF := hfa.2 (num, x) ⟨hnum, hx⟩
      have Hkey := Lib.hid (keyOf_entry hnum hx)
      have Hsz := Lib.hid hfa.1
      have Hhas := Lib.hid hF.1
      have Hat := Lib.hid hF.2
      clear hfa hF
      cases hlk : look ds (num, x) with
      | some j =>
        have hjd := lookF_some hlk
        have hjl : j < ds.length := by have := (List.getElem?_eq_some_iff.1 hjd.2).1; omega
        have Hq2 := Lib.hid (show gpF (zs.drop (k + 1)) ds out ((j : Int) + 1) = gpF zs [] [] 0 by rw [← Hq.out, Hd.out, gpF, hlk])
        have hhas : has D (kl (num, x)) = true := by rw [Hhas.out, hlk]; rfl
        have Hatj := Lib.hid (Hat.out j hlk (.lit (.int .i64 0)))
        clear hlk hjd
        go_wp2_with (at_lookup; go_loud (refine wpList_lookup_own_ok_int _ rfl _ _ 56 rfl 59 2 .i64 entry_keyed Try.underlying56 Try.underlying2 (zero_int _) w.heap.size ds.length D rfl hmap _ _ rfl Hkey.out ?_; intro c hat hwc))
        go_roundw
        case rel =>
          have hcj : c = (j : Int) + 1 := by
            rw [Hatj.out] at hat
            injection hat with h1
            injection h1 with _ h2
            exact h2.symm
          exact ⟨k + 1, ds, D, out, c, by go_num, rfl, by omega, by rw [hcj]; exact Hq2.out, Hmd.out, Hds.out, hmap, hown, Ho64.out, by omega, by omega, by omega, by omega, hB⟩
        case measure => simp [intOf]; omega
      | none =>
        have hhas : has D (kl (num, x)) = false := by rw [Hhas.out, hlk]; rfl
        have Hq2 := Lib.hid (show gpF (zs.drop (k + 1)) (ds ++ [(num, x)]) (out ++ [num, x]) 0 = gpF zs [] [] 0 by rw [← Hq.out, Hd.out, gpF, hlk])
        have Hmd2 := Lib.hid (Hmd.out.snoc (num, x) hlk)
        have Hwf := Lib.hid (wf64 (z := (ds.length : Int) + 1) ⟨by omega, by omega⟩)
        clear hlk
        go_wp2_with (first
          | (at_lookup; refine wpList_lookup_own_ok_int _ rfl _ _ 56 rfl 59 2 .i64 entry_keyed Try.underlying56 Try.underlying2 (zero_int _) w.heap.size ds.length D rfl hmap _ _ rfl Hkey.out ?_; intro c hat hwc)
          | (at_len; refine wpList_len_own _ rfl _ 56 rfl 59 2 Try.underlying56 _ w.heap.size ds.length D rfl hmap ?_; rw [Hsz.out])
          | (at_mapUpdate; refine wpList_mapUpdate_own _ rfl _ _ _ 56 rfl 59 2 entry_keyed Try.underlying56 _ w.heap.size ds.length D rfl hmap (by unfold maxLen; omega) _ _ _ rfl rfl Hkey.out _ [] (plainElem_int Try.underlying2 Hwf.out) ?_; intro w1 hmap1 hgrow1; have hown1 := hown.kept hgrow1 (.inr (fun e => by have := (hown.lt _ e).1; omega)); have hB1 := hB.grown hgrow1 (Below.size hB) (fun j hj => by have := Option.some.inj hj; omega))
          | (at_builtin; go_must (refine app_ints rfl _ _ rfl (w.heap.size + 1) w.heap.size (by omega) (.slice aoo out.length capo) out rfl hown1 hB1 _ _ [num, x] rfl rfl (by simp; omega) (by have := World.ownsMap.lt hmap1; omega) ?_)))
        intro v2 w2 hown2 hB2 hg2
        have hmap2 := World.ownsMap.kept (World.ownsMap.alloc hmap1 _) hg2 (fun e => by have := (hown.lt _ e.symm).1; omega)
        have Hl := Lib.hid (show (ds ++ [(num, x)]).length = ds.length + 1 by simp)
        have Hol := Lib.hid (show (out ++ [num, x]).length = out.length + 2 by simp)
        have Hd2 := Lib.hid (show ∀ d ∈ ds ++ [(num, x)], In64 d from fun d hd => by rcases List.mem_append.1 hd with hd | hd; exact Hds.out d hd; obtain rfl := List.mem_singleton.1 hd; exact ⟨hnum, hx⟩)
        have Ho2 := Lib.hid (show AllI64 (out ++ [num, x]) from fun z hz => by rcases List.mem_append.1 hz with hz | hz; exact Ho64.out z hz; simp at hz; rcases hz with rfl | rfl; exact hnum; exact hx)
        obtain ⟨ao2, cap2, rfl⟩ := hown2.shape
        clear hown hmap hmap1 hown1 hgrow1 hg2
        go_wp2
        go_roundw
        case rel => exact ⟨k + 1, ds ++ [(num, x)], _, out ++ [num, x], 0, by go_num, rfl, by omega, Hq2.out, Hmd2.out, Hd2.out, by rw [Hl.out]; exact hmap2, hown2, Ho2.out, by omega, by omega, by rw [Hl.out]; omega, by rw [Hol.out]; omega, hB2⟩
        case measure => simp [intOf]; omega
    · have hke : zs.drop k = [] := List.drop_of_length_le (by omega)
      have hnum : I64 num := ⟨by omega, by omega⟩
      by_cases hn : 0 < num
      · have HF := Lib.hid (show out ++ [num, -1] = gpF zs [] [] 0 by rw [← Hq.out, hke, gpF, if_pos hn])
        have Ho2 := Lib.hid (show AllI64 (out ++ [num, -1]) from fun z hz => by rcases List.mem_append.1 hz with hz | hz; exact Ho64.out z hz; simp at hz; rcases hz with rfl | rfl; exact hnum; exact ⟨by decide, by decide⟩)
        clear hke
        go_wp2_with (at_builtin; go_must (refine app_ints rfl _ _ rfl (w.heap.size + 1) w.heap.size (by omega) (.slice aoo out.length capo) out rfl hown hB _ _ [num, -1] rfl rfl (by simp; omega) (by have := World.ownsMap.lt hmap; omega) ?_))
        intro v2 w2 hown2 hB2 hg2
        go_wp2
        go_ret
        exact ⟨_, rfl, by rw [← HF.out]; exact OI.mono (Nat.le_succ _) (OwnI.oi hown2 Ho2.out), hB2⟩
      · have HF := Lib.hid (show out = gpF zs [] [] 0 by rw [← Hq.out, hke, gpF, if_neg hn])
        clear hke
        go_wp2
        go_ret
        exact ⟨_, rfl, by rw [← HF.out]; exact OI.mono (Nat.le_succ _) (OwnI.oi hown Ho64.out), hB⟩
end Go.Proofs.Ytjeakgakpioieaa
