/- StateBits: plain part, the place of a letter, the reference. No conditions but that the slices read. -/
import Derived.Test.YtnhcoggjnbldiaaStT
import Derived.Test.YtnhcoggjnbldiaaAppB
namespace Go.Proofs.Ytnhcoggjnbldiaa
open Go.RowKit
set_option maxRecDepth 100000
set_option linter.unusedVariables false
set_option linter.unusedSimpArgs false

def hvF (f : Nat) : Nat → Nat → List Bool → Nat × List Bool
  | 0, s, b => (s, b)
  | k + 1, s, b => if 2 * f ≤ s then hvF f k (s / 2) (b ++ [s % 2 == 1]) else (s, b)
theorem hvF_out (f k s : Nat) (b : List Bool) (h : ¬ 2 * f ≤ s) : hvF f k s b = (s, b) := by cases k <;> simp [hvF, h]
theorem hvF_in (f k s : Nat) (b : List Bool) (h : 2 * f ≤ s) : hvF f (k + 1) s b = hvF f k (s / 2) (b ++ [s % 2 == 1]) := by rw [hvF, if_pos h]
def plF (L : Int) : List Int → Nat → Nat → Nat
  | [], _, _ => 0
  | t :: ts, i, n => if t = L then (if n = 0 then i else plF L ts (i + 1) (n - 1)) else plF L ts (i + 1) n
theorem plF_lt (L : Int) (N : Nat) (hN : 0 < N) (ts : List Int) (i n : Nat) (h : i + ts.length ≤ N) : plF L ts i n < N := by
  induction ts generalizing i n with
  | nil => exact hN
  | cons t ts ih =>
    rw [List.length_cons] at h
    rw [plF]
    split
    · split
      · omega
      · exact ih _ _ (by omega)
    · exact ih _ _ (by omega)
def sbStep (N : Nat) (tb zs : List Int) (st : Nat × List Bool) (L : Int) : Nat × List Bool :=
  let f := (zs.getD L.toNat 0).toNat
  let q := hvF f 9 st.1 st.2
  (N + plF L tb 0 (q.1 - f), q.2)
def sbF (N : Nat) (tb zs : List Int) (ls : List Int) : Nat × List Bool := ls.foldl (sbStep N tb zs) (N, [])
theorem sbF_snoc (N : Nat) (tb zs ls : List Int) (L : Int) : sbF N tb zs (ls ++ [L]) = sbStep N tb zs (sbF N tb zs ls) L := by simp [sbF]
theorem sbStep_eq (N : Nat) (tb zs : List Int) (s : Nat) (b : List Bool) (L : Int) (l f s' : Nat) (b' : List Bool) (hL : L = (l : Int)) (hl : l < zs.length) (hf : zs[l] = (f : Int)) (h : hvF f 9 s b = (s', b')) :
    sbStep N tb zs (s, b) L = (N + plF L tb 0 (s' - f), b') := by
  have e : (zs.getD L.toNat 0).toNat = f := by rw [hL, Int.toNat_natCast, List.getD_eq_getElem?_getD, List.getElem?_eq_getElem hl, hf]; simp
  unfold sbStep
  simp only [e, h]
def sbOk (p : Int) (zs ts : List Int) : Bool := shs p zs && txt ts (zs.length : Int)
def sbR (p : Int) (zs ts : List Int) : Nat × List Bool := if sbOk p zs ts = true then sbF (2 ^ p.toNat) (spr p.toNat zs) zs ts.reverse else (0, [])
def sbZ (p : Int) (zs ts : List Int) : List Bool := (sbR p zs ts).2
def sbS (p : Int) (zs ts : List Int) : Int := ((sbR p zs ts).1 : Int)
theorem hvF_ok (N f : Nat) (hf1 : 1 ≤ f) (hfN : f ≤ N) (k s : Nat) (b : List Bool) (hk : s < 2 ^ k) (hfs : f ≤ s) :
    f ≤ (hvF f k s b).1 ∧ (hvF f k s b).1 < 2 * f ∧ (hvF f k s b).2.length ≤ b.length + k := by
  induction k generalizing s b with
  | zero => simp at hk; omega
  | succ k ih =>
    rw [hvF]
    split
    · have := ih (s / 2) (b ++ [s % 2 == 1]) (by rw [Nat.pow_succ] at hk; omega) (by omega)
      refine ⟨this.1, this.2.1, Nat.le_trans this.2.2 ?_⟩
      rw [List.length_append]; simp; omega
    · exact ⟨hfs, by omega, by simp⟩
/-- What holds of the state and of the bits behind each letter. -/
theorem sb_ok' (N : Nat) (hN1 : 0 < N) (hN256 : N ≤ 256) (tb zs : List Int) (htb : tb.length = N) (hz : ∀ z ∈ zs, 1 ≤ z ∧ z ≤ (N : Int)) (ls : List Int) (hls : ∀ L ∈ ls, 0 ≤ L ∧ L < zs.length) :
    N ≤ (sbF N tb zs ls.reverse).1 ∧ (sbF N tb zs ls.reverse).1 < 2 * N ∧ (sbF N tb zs ls.reverse).2.length ≤ 9 * ls.length := by
  induction ls with
  | nil => exact ⟨Nat.le_refl _, by show N < 2 * N; omega, Nat.zero_le _⟩
  | cons L ls ih =>
    have ih := ih fun x hx => hls x (by simp [hx])
    have hL := hls L (by simp)
    rw [List.reverse_cons, sbF_snoc]
    generalize sbF N tb zs ls.reverse = q0 at ih ⊢
    obtain ⟨s, b⟩ := q0
    dsimp only at ih
    have hl : L.toNat < zs.length := by omega
    have hzl := hz _ (List.getElem_mem hl)
    obtain ⟨f, hf⟩ : ∃ f : Nat, zs[L.toNat] = f := ⟨(zs[L.toNat]).toNat, by omega⟩
    rw [hf] at hzl
    have hh := hvF_ok N f (by omega) (by omega) 9 s b (by omega) (by omega)
    generalize hq : hvF f 9 s b = q at hh
    obtain ⟨s', b'⟩ := q
    rw [sbStep_eq N tb zs s b L L.toNat f s' b' (by omega) hl hf hq]
    have := plF_lt L N hN1 tb 0 (s' - f) (by omega)
    dsimp only at hh ⊢
    refine ⟨by omega, by omega, ?_⟩
    rw [List.length_cons]; omega
theorem sb_ok (N : Nat) (hN1 : 0 < N) (hN256 : N ≤ 256) (tb zs : List Int) (htb : tb.length = N) (hz : ∀ z ∈ zs, 1 ≤ z ∧ z ≤ (N : Int)) (ls : List Int) (hls : ∀ L ∈ ls, 0 ≤ L ∧ L < zs.length) :
    N ≤ (sbF N tb zs ls).1 ∧ (sbF N tb zs ls).1 < 2 * N ∧ (sbF N tb zs ls).2.length ≤ 9 * ls.length := by
  have := sb_ok' N hN1 hN256 tb zs htb hz ls.reverse (fun L hL => hls L (by simpa using hL))
  rwa [List.reverse_reverse, List.length_reverse] at this
theorem sbZ_len (p : Int) (zs ts : List Int) : (sbZ p zs ts).length ≤ 1024 := by
  unfold sbZ sbR
  split
  · rename_i hk
    simp only [sbOk, Bool.and_eq_true] at hk
    obtain ⟨m, hpm, hm1, hm8, hl2, hl16, hz, hsum⟩ := shs_parts hk.1
    have ht := hk.2
    simp only [txt, Bool.and_eq_true, decide_eq_true_eq] at ht
    have hts := (allIn_iff _ _ _).1 ht.2
    have hpt : p.toNat = m := by omega
    rw [hpt]
    have hLi : (2 : Int) ^ m = ((2 ^ m : Nat) : Int) := by simp
    have := sb_ok (2 ^ m) (Nat.two_pow_pos m) (Nat.le_trans (Nat.pow_le_pow_right (by decide) hm8) (by decide)) (spr m zs) zs (spr_len m zs) (by
      intro z hzm
      have h1 := (sum_ge (zs := zs) fun z hz' => by have := hz z hz'; omega).2 z hzm
      rw [hsum, hLi] at h1
      exact ⟨(hz z hzm).1, h1⟩) ts.reverse (fun L hL => by have := hts L (by simpa using hL); omega)
    rw [List.length_reverse] at this
    omega
  · simp
theorem sb_bad {p : Int} {zs ts : List Int} (h : sbOk p zs ts = false) : sbZ p zs ts = [] ∧ sbS p zs ts = 0 := by
  unfold sbZ sbS sbR; rw [h]; exact ⟨rfl, rfl⟩
set_option maxHeartbeats 1000000 in
theorem l05Place_any (v : Value) (tb : List Int) (L : Int) (n : Nat) (w : World) (h : RI w v tb) (hl : tb.length ≤ 256) (hn : n ≤ 512) :
    Calls Try.prog 42 #[v, .int .i64 L, .int .i64 n] w fun e w' => e = .returned (.int .i64 (plF L tb 0 n)) ∧ w = w' := by
  obtain ⟨_, ao, cap, rfl, h1, h2, h3⟩ := h
  go_enter Try.func42, Try.ntmps42
  go_wp2
  go_loop [2, 10] (fun nv iv => ∃ (i m : Nat), iv = .int .i64 i ∧ i ≤ tb.length ∧ nv = .int .i64 m ∧ m ≤ 512 ∧ plF L (tb.drop i) i m = plF L tb 0 n) (fun _ iv => tb.length - (intOf iv).toNat)
  case atStart => exact ⟨0, n, rfl, Nat.zero_le _, rfl, hn, rfl⟩
  case round =>
    obtain ⟨i, m, rfl, hi, rfl, hm, hq⟩ := hrel
    have Hq := Lib.hid hq
    clear hq
    by_cases hil : i < tb.length
    · obtain ⟨b, off, rfl, hc⟩ := h3 i hil
      have Hd := Lib.hid (List.drop_eq_getElem_cons hil)
      clear h3
      generalize tb[i] = t at *
      by_cases hy : t = L
      · subst hy
        by_cases hm0 : m = 0
        · have hfin : plF t tb 0 n = i := by rw [← Hq.out, Hd.out, plF, if_pos rfl, if_pos hm0]
          have Hfin := Lib.hid hfin
          have hmz : ((m : Int) == 0) = true := by simpa using hm0
          clear hfin hm0
          go_wp2
          go_ret
          exact ⟨ret_i64 (by rw [Hfin.out]), rfl⟩
        · have hmz : ((m : Int) == 0) = false := by simpa using hm0
          have Hq2 := Lib.hid (show plF t (tb.drop (i + 1)) (i + 1) (m - 1) = plF t tb 0 n by rw [← Hq.out, Hd.out, plF, if_pos rfl, if_neg hm0])
          have hm1 : (m : Int) - 1 = ((m - 1 : Nat) : Int) := by omega
          have Hm1 := Lib.hid hm1
          have hmp : 1 ≤ m := by omega
          clear hm0 hm1
          go_wp2
          go_round
          case rel => exact ⟨i + 1, m - 1, by go_num, by omega, vi Hm1.out, by omega, Hq2.out⟩
          case measure => simp [intOf] <;> omega
      · have hyf : (t != L) = true := by simpa using hy
        have Hq2 := Lib.hid (show plF L (tb.drop (i + 1)) (i + 1) m = plF L tb 0 n by rw [← Hq.out, Hd.out, plF, if_neg hy])
        clear hy
        go_wp2
        go_round
        case rel => exact ⟨i + 1, m, by go_num, by omega, rfl, hm, Hq2.out⟩
        case measure => simp [intOf] <;> omega
    · have hfin : plF L tb 0 n = 0 := by rw [← Hq.out, List.drop_of_length_le (by omega)]; rfl
      have Hfin := Lib.hid hfin
      clear hfin
      go_wp2
      go_ret
      exact ⟨ret_i64 (by rw [Hfin.out]; rfl), rfl⟩
set_option maxHeartbeats 1000000 in
theorem placeOf_any (v : Value) (tb : List Int) (L : Int) (n : Nat) (w : World) (h : RI w v tb) (hl : tb.length ≤ 256) (hn : n ≤ 512) :
    Calls Try.prog 39 #[v, .int .i64 L, .int .i64 n] w fun e w' => e = .returned (.int .i64 (plF L tb 0 n)) ∧ w = w' := by
  obtain ⟨_, ao, cap, rfl, h1, h2, h3⟩ := h
  go_enter Try.func39, Try.ntmps39
  go_wp2
  go_loop [2, 11] (fun nv iv => ∃ (i m : Nat), iv = .int .i64 i ∧ i ≤ tb.length ∧ nv = .int .i64 m ∧ m ≤ 512 ∧ plF L (tb.drop i) i m = plF L tb 0 n) (fun _ iv => tb.length - (intOf iv).toNat)
  case atStart => exact ⟨0, n, rfl, Nat.zero_le _, rfl, hn, rfl⟩
  case round =>
    obtain ⟨i, m, rfl, hi, rfl, hm, hq⟩ := hrel
    have Hq := Lib.hid hq
    clear hq
    by_cases hil : i < tb.length
    · obtain ⟨b, off, rfl, hc⟩ := h3 i hil
      have Hd := Lib.hid (List.drop_eq_getElem_cons hil)
      clear h3
      generalize tb[i] = t at *
      by_cases hy : t = L
      · subst hy
        by_cases hm0 : m = 0
        · have hfin : plF t tb 0 n = i := by rw [← Hq.out, Hd.out, plF, if_pos rfl, if_pos hm0]
          have Hfin := Lib.hid hfin
          have hmz : ((m : Int) == 0) = true := by simpa using hm0
          clear hfin hm0
          go_wp2
          go_ret
          exact ⟨ret_i64 (by rw [Hfin.out]), rfl⟩
        · have hmz : ((m : Int) == 0) = false := by simpa using hm0
          have Hq2 := Lib.hid (show plF t (tb.drop (i + 1)) (i + 1) (m - 1) = plF t tb 0 n by rw [← Hq.out, Hd.out, plF, if_pos rfl, if_neg hm0])
          have hm1 : (m : Int) - 1 = ((m - 1 : Nat) : Int) := by omega
          have Hm1 := Lib.hid hm1
          have hmp : 1 ≤ m := by omega
          clear hm0 hm1
          go_wp2
          go_round
          case rel => exact ⟨i + 1, m - 1, by go_num, by omega, vi Hm1.out, by omega, Hq2.out⟩
          case measure => simp [intOf] <;> omega
      · have hyf : (t != L) = true := by simpa using hy
        have Hq2 := Lib.hid (show plF L (tb.drop (i + 1)) (i + 1) m = plF L tb 0 n by rw [← Hq.out, Hd.out, plF, if_neg hy])
        clear hy
        go_wp2
        go_round
        case rel => exact ⟨i + 1, m, by go_num, by omega, rfl, hm, Hq2.out⟩
        case measure => simp [intOf] <;> omega
    · have hfin : plF L tb 0 n = 0 := by rw [← Hq.out, List.drop_of_length_le (by omega)]; rfl
      have Hfin := Lib.hid hfin
      clear hfin
      go_wp2
      go_ret
      exact ⟨ret_i64 (by rw [Hfin.out]; rfl), rfl⟩
end Go.Proofs.Ytnhcoggjnbldiaa
