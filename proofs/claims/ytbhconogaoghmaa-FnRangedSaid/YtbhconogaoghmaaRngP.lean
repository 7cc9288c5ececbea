/- Ranges of letters: what the loops of the coders compute, as plain functions. Conditions: counts of at least 1, at most 16384 in all. -/
import Derived.Test.YtbhconogaoghmaaMem
import Derived.Test.YtbhconogaoghmaaCounts
namespace Go.Proofs.Ytbhconogaoghmaa
open Go.RowKit
set_option maxRecDepth 100000
set_option linter.unusedVariables false
set_option linter.unusedSimpArgs false

def git (zs : List Int) (i : Nat) : Int := zs[i]?.getD 0
theorem git_eq {zs : List Int} {i : Nat} (h : i < zs.length) : git zs i = zs[i] := by simp [git, h]
def befo (cs : List Int) (l : Nat) : Int := sumL (cs.take l)
def Pos (cs : List Int) : Prop := ∀ c ∈ cs, 1 ≤ c
theorem sumL_app (a b : List Int) : sumL (a ++ b) = sumL a + sumL b := by
  induction a with
  | nil => simp [sumL]
  | cons x a ih => simp only [List.cons_append, sumL, ih]; omega
theorem sumL_pos {cs : List Int} (h : Pos cs) : (cs.length : Int) ≤ sumL cs := by
  induction cs with
  | nil => simp [sumL]
  | cons c cs ih =>
    have h1 := h c (by simp)
    have h2 := ih fun y hy => h y (List.mem_cons_of_mem _ hy)
    simp only [sumL, List.length_cons]; omega
theorem Pos.take {cs : List Int} (h : Pos cs) (k : Nat) : Pos (cs.take k) := fun z hz => h z (List.mem_of_mem_take hz)
theorem Pos.drop {cs : List Int} (h : Pos cs) (k : Nat) : Pos (cs.drop k) := fun z hz => h z (List.mem_of_mem_drop hz)
theorem befo_bd {cs : List Int} (h : Pos cs) (l : Nat) : 0 ≤ befo cs l ∧ befo cs l ≤ sumL cs := by
  have h1 := sumL_pos (h.take l)
  have h2 := sumL_pos (h.drop l)
  have h3 := sumL_app (cs.take l) (cs.drop l)
  rw [List.take_append_drop] at h3
  unfold befo; omega
theorem befo_succ {cs : List Int} {l : Nat} (hl : l < cs.length) : befo cs (l + 1) = befo cs l + git cs l := by
  unfold befo
  rw [List.take_succ_eq_append_getElem hl, sumL_app, git_eq hl]; simp [sumL]
theorem befo_next {cs : List Int} (h : Pos cs) {l : Nat} (hl : l < cs.length) : 1 ≤ git cs l ∧ befo cs l + git cs l ≤ sumL cs := by
  have h1 := befo_bd h (l + 1)
  rw [befo_succ hl] at h1
  have h2 := h cs[l] (List.getElem_mem hl)
  rw [git_eq hl] at h1 ⊢; omega
theorem befo_mono {cs : List Int} (h : Pos cs) {a b : Nat} (hab : a ≤ b) (hb : b ≤ cs.length) : befo cs a + (b - a : Nat) ≤ befo cs b := by
  obtain ⟨d, rfl⟩ : ∃ d, b = a + d := ⟨b - a, by omega⟩
  induction d with
  | zero => simp
  | succ d ih =>
    have h1 := ih (by omega) (by omega)
    rw [← Nat.add_assoc, befo_succ (by omega)]
    have := (befo_next h (l := a + d) (by omega)).1
    omega
theorem befo_all (cs : List Int) : befo cs cs.length = sumL cs := by unfold befo; rw [List.take_length]
def nLow (cs : List Int) (l : Nat) (low high : Int) : Int := low + (high - low + 1) * befo cs l / sumL cs
def nHigh (cs : List Int) (l : Nat) (low high : Int) : Int := low + (high - low + 1) * (befo cs l + git cs l) / sumL cs - 1
theorem div_step {w t a c : Int} (ht : 0 < t) (hw : t ≤ w) (hc : 1 ≤ c) (ha : 0 ≤ a) : w * a / t + 1 ≤ w * (a + c) / t := by
  have h1 : w * a + t ≤ w * (a + c) := by
    rw [Int.mul_add]
    have : t * 1 ≤ w * c := Int.mul_le_mul hw hc (by omega) (by omega)
    omega
  have h2 : (w * a + t) / t ≤ w * (a + c) / t := Int.ediv_le_ediv ht h1
  have h3 : (w * a + t) / t = w * a / t + 1 := by
    rw [Int.add_ediv_of_dvd_right (Int.dvd_refl t), Int.ediv_self (by omega)]
  omega
theorem div_top {w t a : Int} (ht : 0 < t) (hw : 0 ≤ w) (ha : a ≤ t) (h0 : 0 ≤ a) : 0 ≤ w * a / t ∧ w * a / t ≤ w := by
  have h1 : w * a ≤ w * t := Int.mul_le_mul_of_nonneg_left ha hw
  refine ⟨Int.ediv_nonneg (Int.mul_nonneg hw h0) (by omega), ?_⟩
  have h2 : w * a / t ≤ w * t / t := Int.ediv_le_ediv ht h1
  rwa [Int.mul_ediv_cancel _ (by omega)] at h2
/-- A range that is wider than all counts stays one behind a letter. -/
theorem narrow_bd {cs : List Int} (h : Pos cs) {l : Nat} (hl : l < cs.length) {low high : Int} (h0 : 0 ≤ low) (h1 : high ≤ 65535) (hw : sumL cs ≤ high - low + 1) :
    low ≤ nLow cs l low high ∧ nLow cs l low high ≤ nHigh cs l low high ∧ nHigh cs l low high ≤ high := by
  have hn := befo_next h hl
  have hb := befo_bd h l
  have hp := sumL_pos h
  have hs : 0 < sumL cs := by omega
  have e1 := div_step (w := high - low + 1) hs hw hn.1 hb.1
  have e2 := div_top (w := high - low + 1) hs (by omega) hn.2 (by omega)
  have e3 := div_top (w := high - low + 1) hs (by omega) hb.2 hb.1
  unfold nLow nHigh
  omega
/-- The products that are met. -/
theorem prod_bd {cs : List Int} (h : Pos cs) (hs : sumL cs ≤ 16384) {l : Nat} (hl : l < cs.length) {low high : Int} (h0 : 0 ≤ low) (h1 : low ≤ high) (h2 : high ≤ 65535) :
    0 ≤ (high - low + 1) * befo cs l ∧ (high - low + 1) * befo cs l ≤ 1073741824 ∧ 0 ≤ (high - low + 1) * (befo cs l + git cs l) ∧ (high - low + 1) * (befo cs l + git cs l) ≤ 1073741824 := by
  have hn := befo_next h hl
  have hb := befo_bd h l
  have m : ∀ a : Int, 0 ≤ a → a ≤ 16384 → 0 ≤ (high - low + 1) * a ∧ (high - low + 1) * a ≤ 1073741824 := fun a ha hA => by
    refine ⟨Int.mul_nonneg (by omega) ha, ?_⟩
    have : (high - low + 1) * a ≤ 65536 * 16384 := Int.mul_le_mul (by omega) hA ha (by omega)
    omega
  exact ⟨(m _ hb.1 (by omega)).1, (m _ hb.1 (by omega)).2, (m _ (by omega) (by omega)).1, (m _ (by omega) (by omega)).2⟩
def halv (low high : Int) : Option Int := if high < 32768 then some 0 else if 32768 ≤ low then some 32768 else if 16384 ≤ low ∧ high < 49152 then some 16384 else none
theorem halv_some {low high b : Int} (h : halv low high = some b) (h0 : 0 ≤ low) (h1 : low ≤ high) (h2 : high ≤ 65535) : 0 ≤ b ∧ b ≤ low ∧ 0 ≤ 2 * (low - b) ∧ 2 * (high - b) + 1 ≤ 65535 := by
  unfold halv at h
  split at h
  · have := Option.some.inj h; omega
  · split at h
    · have := Option.some.inj h; omega
    · split at h
      · have := Option.some.inj h; omega
      · cases h
theorem halv_none {low high : Int} (h : halv low high = none) : 16385 ≤ high - low + 1 := by
  unfold halv at h
  split at h
  · cases h
  · split at h
    · cases h
    · split at h
      · cases h
      · omega
def tellB (b : Bool) (n : Nat) : List Bool := b :: List.replicate n (!b)
structure Rs where
  low : Int
  high : Int
  wait : Nat
  bits : List Bool
def wid : Nat → Rs → Rs
  | 0, r => r
  | f + 1, r => match halv r.low r.high with
    | none => r
    | some b => wid f ⟨2 * (r.low - b), 2 * (r.high - b) + 1, if b = 16384 then r.wait + 1 else 0, if b = 16384 then r.bits else r.bits ++ tellB (decide (b = 32768)) r.wait⟩
theorem wid_none {f : Nat} {r : Rs} (h : halv r.low r.high = none) : wid f r = r := by
  cases f with
  | zero => rfl
  | succ f => rw [wid, h]
/-- So many rounds are enough. -/
def Fuel (f : Nat) (low high : Int) : Prop := 65536 < (high - low + 1) * 2 ^ f
theorem Fuel.pos {f : Nat} {low high : Int} (h : Fuel f low high) (h0 : 0 ≤ low) (h1 : high ≤ 65535) : ∃ g, f = g + 1 := by
  cases f with
  | zero => unfold Fuel at h; simp at h; omega
  | succ g => exact ⟨g, rfl⟩
theorem Fuel.next {f : Nat} {low high b : Int} (h : Fuel (f + 1) low high) : Fuel f (2 * (low - b)) (2 * (high - b) + 1) := by
  unfold Fuel at *
  rw [Int.pow_succ, Int.mul_comm (2 ^ f) 2, ← Int.mul_assoc] at h
  have e : 2 * (high - b) + 1 - 2 * (low - b) + 1 = (high - low + 1) * 2 := by omega
  rw [e]; exact h
theorem fuel17 {low high : Int} (h : low ≤ high) : Fuel 17 low high := by unfold Fuel; omega
theorem wid_out (f : Nat) (r : Rs) (hf : Fuel f r.low r.high) (h0 : 0 ≤ r.low) (h1 : r.low ≤ r.high) (h2 : r.high ≤ 65535) :
    0 ≤ (wid f r).low ∧ (wid f r).low ≤ (wid f r).high ∧ (wid f r).high ≤ 65535 ∧ 16385 ≤ (wid f r).high - (wid f r).low + 1 ∧ (wid f r).bits.length + (wid f r).wait ≤ r.bits.length + r.wait + f := by
  induction f generalizing r with
  | zero => obtain ⟨g, hg⟩ := hf.pos h0 h2; omega
  | succ f ih =>
    rw [wid]
    cases hh : halv r.low r.high with
    | none => have := halv_none hh; exact ⟨h0, h1, h2, this, by first | omega | (simp; done) | (simp; omega)⟩
    | some b =>
      have hb := halv_some hh h0 h1 h2
      have := ih ⟨2 * (r.low - b), 2 * (r.high - b) + 1, if b = 16384 then r.wait + 1 else 0, if b = 16384 then r.bits else r.bits ++ tellB (decide (b = 32768)) r.wait⟩ hf.next (by simp; omega) (by simp; omega) (by simp; omega)
      refine ⟨this.1, this.2.1, this.2.2.1, this.2.2.2.1, Nat.le_trans this.2.2.2.2 ?_⟩
      simp only
      split
      · omega
      · simp [tellB]; omega
def bumpG (cs : List Int) (l : Nat) (g : Int) : List Int := cs.set l (git cs l + g)
theorem bumpG_len (cs : List Int) (l : Nat) (g : Int) : (bumpG cs l g).length = cs.length := by simp [bumpG]
theorem bumpG_pos {cs : List Int} (h : Pos cs) {l : Nat} (hl : l < cs.length) {g : Int} (hg : 0 ≤ g) : Pos (bumpG cs l g) := by
  intro c hc
  have := (befo_next h hl).1
  rcases List.mem_or_eq_of_mem_set hc with hc | rfl
  · exact h c hc
  · omega
theorem sumL_set {cs : List Int} {l : Nat} (hl : l < cs.length) (x : Int) : sumL (cs.set l x) = sumL cs - git cs l + x := by
  induction cs generalizing l with
  | nil => simp at hl
  | cons c cs ih =>
    cases l with
    | zero => simp [sumL, git]; omega
    | succ l =>
      have h1 := ih (l := l) (by simpa using hl)
      have h2 : git (c :: cs) (l + 1) = git cs l := by simp [git]
      rw [List.set_cons_succ, sumL, sumL, h1, h2]; omega
theorem bumpG_sum {cs : List Int} {l : Nat} (hl : l < cs.length) (g : Int) : sumL (bumpG cs l g) = sumL cs + g := by unfold bumpG; rw [sumL_set hl]; omega
/-- The bits of a text. -/
def rbF (g : Int) : List Int → List Int → Rs → List Bool
  | [], _, r => r.bits ++ tellB (decide (16384 ≤ r.low)) (r.wait + 1)
  | z :: zs, cs, r => rbF g zs (bumpG cs z.toNat g) (wid 17 ⟨nLow cs z.toNat r.low r.high, nHigh cs z.toNat r.low r.high, r.wait, r.bits⟩)
def rb (g : Int) (cs zs : List Int) : List Bool := rbF g zs cs ⟨0, 65535, 0, []⟩
/-- What holds of a range between two letters. -/
def Rok (r : Rs) (cs : List Int) (N : Nat) : Prop := 0 ≤ r.low ∧ r.low ≤ r.high ∧ r.high ≤ 65535 ∧ 16385 ≤ r.high - r.low + 1 ∧ r.bits.length + r.wait ≤ N
theorem Rok.next {r : Rs} {cs : List Int} {N : Nat} (h : Rok r cs N) (hp : Pos cs) (hs : sumL cs ≤ 16384) {l : Nat} (hl : l < cs.length) (cs' : List Int) :
    Rok (wid 17 ⟨nLow cs l r.low r.high, nHigh cs l r.low r.high, r.wait, r.bits⟩) cs' (N + 17) := by
  obtain ⟨h0, h1, h2, h3, h4⟩ := h
  have hn := narrow_bd hp hl h0 h2 (by omega)
  have := wid_out 17 ⟨nLow cs l r.low r.high, nHigh cs l r.low r.high, r.wait, r.bits⟩ (fuel17 hn.2.1) (by simp; omega) hn.2.1 (by simp; omega)
  refine ⟨this.1, this.2.1, this.2.2.1, this.2.2.2.1, ?_⟩
  have h5 := this.2.2.2.2
  simp only at h5; omega
theorem rbF_len (g : Int) (zs cs : List Int) (r : Rs) (N : Nat) (h : Rok r cs N) (hp : Pos cs) (hg : 0 ≤ g) (hs : sumL cs + g * zs.length ≤ 16384) (hz : ∀ z ∈ zs, 0 ≤ z ∧ z < cs.length) : (rbF g zs cs r).length ≤ N + 17 * zs.length + 2 := by
  induction zs generalizing cs r N with
  | nil => rw [rbF]; simp [tellB]; have := h.2.2.2.2; omega
  | cons z zs ih =>
    have hz0 := hz z (by simp)
    have hl : z.toNat < cs.length := by omega
    have hgl : 0 ≤ g * (zs.length : Int) := Int.mul_nonneg hg (by omega)
    have e : g * ((zs.length + 1 : Nat) : Int) = g * zs.length + g := by rw [Int.natCast_add, Int.mul_add]; simp
    rw [List.length_cons, e] at hs
    rw [rbF]
    have := ih (bumpG cs z.toNat g) _ (N + 17) (h.next hp (by omega) hl _) (bumpG_pos hp hl hg) (by rw [bumpG_sum hl]; omega) (fun y hy => by rw [bumpG_len]; exact hz y (List.mem_cons_of_mem _ hy))
    rw [List.length_cons]; omega
/-- The letters of bits. -/
def bitI (bs : List Bool) (i : Nat) : Int := if bs[i]?.getD false = true then 1 else 0
theorem bitI_bd (bs : List Bool) (i : Nat) : 0 ≤ bitI bs i ∧ bitI bs i ≤ 1 := by unfold bitI; split <;> omega
def codF (bs : List Bool) : Nat → Nat → Int → Int
  | 0, _, c => c
  | r + 1, i, c => codF bs r (i + 1) (2 * c + bitI bs i)
theorem codF_bd (bs : List Bool) (r i : Nat) (c : Int) (h0 : 0 ≤ c) (h1 : (c + 1) * 2 ^ r ≤ 65536) : 0 ≤ codF bs r i c ∧ codF bs r i c ≤ 65535 := by
  induction r generalizing i c with
  | zero => simp at h1; simp [codF]; omega
  | succ r ih =>
    have hb := bitI_bd bs i
    rw [codF]
    refine ih _ _ (by omega) ?_
    rw [Int.pow_succ, Int.mul_comm (2 ^ r) 2, ← Int.mul_assoc] at h1
    have h2 : (2 * c + bitI bs i + 1) * 2 ^ r ≤ (c + 1) * 2 * 2 ^ r := Int.mul_le_mul_of_nonneg_right (by omega) (Int.pow_nonneg (by decide))
    omega
def place (cs : List Int) (low high code : Int) : Int := ((code - low + 1) * sumL cs - 1) / (high - low + 1)
/-- The letter at a place: the last one before which there are no more than so many. -/
def letF (cs : List Int) (p : Int) : Nat → Nat → Nat
  | 0, l => l
  | r + 1, l => if befo cs (l + 1) ≤ p then letF cs p r (l + 1) else l
def letr (cs : List Int) (p : Int) : Nat := letF cs p (cs.length - 1) 0
theorem letF_bd {cs : List Int} {p : Int} (r l : Nat) (h : befo cs l ≤ p) : l ≤ letF cs p r l ∧ letF cs p r l ≤ l + r ∧ befo cs (letF cs p r l) ≤ p ∧ (letF cs p r l < l + r → p < befo cs (letF cs p r l + 1)) := by
  induction r generalizing l with
  | zero => simp [letF, h]
  | succ r ih =>
    rw [letF]; split
    · have := ih (l + 1) (by assumption); omega
    · exact ⟨by omega, by omega, h, fun _ => by omega⟩
structure Ts where
  low : Int
  high : Int
  code : Int
  at' : Nat
def widT (bs : List Bool) : Nat → Ts → Ts
  | 0, r => r
  | f + 1, r => match halv r.low r.high with
    | none => r
    | some b => widT bs f ⟨2 * (r.low - b), 2 * (r.high - b) + 1, 2 * (r.code - b) + bitI bs r.at', r.at' + 1⟩
theorem widT_none {bs : List Bool} {f : Nat} {r : Ts} (h : halv r.low r.high = none) : widT bs f r = r := by
  cases f with
  | zero => rfl
  | succ f => rw [widT, h]
def Tok (r : Ts) : Prop := 0 ≤ r.low ∧ r.low ≤ r.code ∧ r.code ≤ r.high ∧ r.high ≤ 65535
theorem widT_out (bs : List Bool) (f : Nat) (r : Ts) (hf : Fuel f r.low r.high) (h : Tok r) :
    Tok (widT bs f r) ∧ 16385 ≤ (widT bs f r).high - (widT bs f r).low + 1 ∧ (widT bs f r).at' ≤ r.at' + f := by
  induction f generalizing r with
  | zero => obtain ⟨g, hg⟩ := hf.pos h.1 h.2.2.2; omega
  | succ f ih =>
    obtain ⟨h0, h1, h2, h3⟩ := h
    rw [widT]
    cases hh : halv r.low r.high with
    | none => have := halv_none hh; exact ⟨⟨h0, h1, h2, h3⟩, this, by first | omega | (simp; done) | (simp; omega)⟩
    | some b =>
      have hb := halv_some hh h0 (by omega) h3
      have hbt := bitI_bd bs r.at'
      have := ih ⟨2 * (r.low - b), 2 * (r.high - b) + 1, 2 * (r.code - b) + bitI bs r.at', r.at' + 1⟩ hf.next ⟨by simp; omega, by simp; omega, by simp; omega, by simp; omega⟩
      exact ⟨this.1, this.2.1, by have h9 := this.2.2; simp only at h9 ⊢; omega⟩
theorem place_bd {cs : List Int} (hp : Pos cs) (h0 : cs ≠ []) {low high code : Int} (h1 : low ≤ code) (h2 : code ≤ high) : 0 ≤ place cs low high code ∧ place cs low high code < sumL cs := by
  have hs : 0 < sumL cs := by
    have := sumL_pos hp
    have : 0 < cs.length := List.length_pos_iff.2 h0
    omega
  have hw : 0 < high - low + 1 := by omega
  unfold place
  refine ⟨Int.ediv_nonneg ?_ (by omega), ?_⟩
  · have : 1 * 1 ≤ (code - low + 1) * sumL cs := Int.mul_le_mul (by omega) (by omega) (by omega) (by omega)
    omega
  · rw [Int.ediv_lt_iff_lt_mul hw]
    have : (code - low + 1) * sumL cs ≤ (high - low + 1) * sumL cs := Int.mul_le_mul_of_nonneg_right (by omega) (by omega)
    rw [Int.mul_comm (sumL cs)]; omega
/-- The code lies in the range of the letter at its place. -/
theorem narrow_code {cs : List Int} (hp : Pos cs) {l : Nat} (hl : l < cs.length) {low high code : Int} (h1 : low ≤ code) (h2 : code ≤ high)
    (ha : befo cs l ≤ place cs low high code) (hb : place cs low high code < befo cs l + git cs l) : nLow cs l low high ≤ code ∧ code ≤ nHigh cs l low high := by
  have hs : 0 < sumL cs := by have := sumL_pos hp; omega
  have hw : 0 < high - low + 1 := by omega
  unfold place at ha hb
  rw [Int.le_ediv_iff_mul_le hw] at ha
  rw [Int.ediv_lt_iff_lt_mul hw] at hb
  unfold nLow nHigh
  constructor
  · have : (high - low + 1) * befo cs l / sumL cs < code - low + 1 := by
      rw [Int.ediv_lt_iff_lt_mul hs, Int.mul_comm]; omega
    omega
  · have : code - low + 1 ≤ (high - low + 1) * (befo cs l + git cs l) / sumL cs := by
      rw [Int.le_ediv_iff_mul_le hs, Int.mul_comm (high - low + 1)]; omega
    omega
theorem letr_bd {cs : List Int} (hp : Pos cs) (h0 : cs ≠ []) {p : Int} (h1 : 0 ≤ p) (h2 : p < sumL cs) : letr cs p < cs.length ∧ befo cs (letr cs p) ≤ p ∧ p < befo cs (letr cs p) + git cs (letr cs p) := by
  have hl : 0 < cs.length := List.length_pos_iff.2 h0
  have := letF_bd (cs := cs) (p := p) (cs.length - 1) 0 (by simpa [befo, sumL] using h1)
  unfold letr
  generalize letF cs p (cs.length - 1) 0 = l at *
  obtain ⟨_, a, b, c⟩ := this
  refine ⟨by omega, b, ?_⟩
  rw [← befo_succ (by omega)]
  by_cases e : l < 0 + (cs.length - 1)
  · exact c e
  · rw [show l + 1 = cs.length by omega, befo_all]; exact h2
def rtF (g : Int) (bs : List Bool) : Nat → List Int → Ts → List Int → List Int
  | 0, _, _, out => out
  | n + 1, cs, r, out => rtF g bs n (bumpG cs (letr cs (place cs r.low r.high r.code)) g)
      (widT bs 17 ⟨nLow cs (letr cs (place cs r.low r.high r.code)) r.low r.high, nHigh cs (letr cs (place cs r.low r.high r.code)) r.low r.high, r.code, r.at'⟩)
      (out ++ [((letr cs (place cs r.low r.high r.code) : Nat) : Int)])
def rt (g : Int) (cs : List Int) (bs : List Bool) (n : Nat) : List Int := rtF g bs n cs ⟨0, 65535, codF bs 16 0 0, 16⟩ []
theorem rtF_len (g : Int) (bs : List Bool) (n : Nat) (cs : List Int) (r : Ts) (out : List Int) : (rtF g bs n cs r out).length = out.length + n := by
  induction n generalizing cs r out with
  | zero => rfl
  | succ n ih => rw [rtF, ih]; simp; omega
theorem Tok.next {bs : List Bool} {r : Ts} {cs : List Int} (h : Tok r) (hw : 16385 ≤ r.high - r.low + 1) (hp : Pos cs) (h0 : cs ≠ []) (hs : sumL cs ≤ 16384) :
    Tok ⟨nLow cs (letr cs (place cs r.low r.high r.code)) r.low r.high, nHigh cs (letr cs (place cs r.low r.high r.code)) r.low r.high, r.code, r.at'⟩ := by
  obtain ⟨a, b, c, d⟩ := h
  have hpl := place_bd hp h0 b c
  have hl := letr_bd hp h0 hpl.1 hpl.2
  have hn := narrow_bd hp hl.1 a d (by omega)
  have hc := narrow_code hp hl.1 b c hl.2.1 hl.2.2
  exact ⟨by simp; omega, hc.1, hc.2, by simp; omega⟩
/-- The program's way to the letter: the last of all that fit. -/
def lalF (cs : List Int) (p : Int) : Nat → Nat → Nat → Nat
  | 0, _, l => l
  | r + 1, k, l => lalF cs p r (k + 1) (if befo cs k ≤ p then k else l)
theorem lalF_eq {cs : List Int} (hp : Pos cs) {p : Int} {t : Nat} (ht : t < cs.length) (h1 : befo cs t ≤ p) (h2 : p < befo cs (t + 1)) (r k l : Nat) (hk : k + r = cs.length) (hl : k ≤ t ∨ l = t) : lalF cs p r k l = t := by
  induction r generalizing k l with
  | zero => rw [lalF]; omega
  | succ r ih =>
    rw [lalF]
    apply ih _ _ (by omega)
    by_cases e : k ≤ t
    · by_cases e2 : k = t
      · subst e2; right; rw [if_pos h1]
      · left; omega
    · right
      have := befo_mono hp (a := t + 1) (b := k) (by omega) (by omega)
      rw [if_neg (by omega)]
      omega
theorem lal_eq {cs : List Int} (hp : Pos cs) (h0 : cs ≠ []) {p : Int} (h1 : 0 ≤ p) (h2 : p < sumL cs) : lalF cs p cs.length 0 0 = letr cs p := by
  have := letr_bd hp h0 h1 h2
  exact lalF_eq hp this.1 this.2.1 (by rw [befo_succ this.1]; exact this.2.2) _ _ _ (by omega) (.inl (by omega))
end Go.Proofs.Ytbhconogaoghmaa
