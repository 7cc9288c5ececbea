/- Terms of a polynomial through values at places: what both packages compute. Conditions: a prime, at most 8 different places and values below it. -/
import Derived.Test.YtgkciionmhoofaaMvP
import Derived.Test.YtgkciionmhoofaaLag2
import Derived.Test.YtgkciionmhoofaaPop
import Derived.Handy
namespace Go.Proofs.Ytgkciionmhoofaa
open Go.RowKit
set_option maxRecDepth 100000
set_option linter.unusedVariables false
set_option linter.unusedSimpArgs false

theorem make_ob {W : World} {n : Nat} {w' : World} (h0 : 0 < n) (hown : w'.ownsRow W.heap.size 2 1 (.slice (some ⟨W.heap.size, 0, none⟩) n n) n (madeCells #[Value.int .i64 0] n).toList) : OB (Value.int .i64) W.heap.size w' W.heap.size 0 n n (List.replicate n 0) := by
  have h1 : w'.ownsRow W.heap.size 2 1 (.slice (some ⟨W.heap.size, 0, none⟩) n n) (List.replicate n (0 : Int)).length ((List.replicate n (0 : Int)).map (Value.int .i64)) := by simpa [toList_madeCells_one] using hown
  have h2 := Og.own h1
  obtain ⟨g, off, cap, e, hob⟩ := Og.ob h2 (by simp; exact h0)
  simp only [Value.slice.injEq, Option.some.injEq, Addr.mk.injEq, and_true, true_and, List.length_replicate] at e
  obtain ⟨⟨rfl, rfl⟩, rfl⟩ := e
  simpa using hob
/-- What has been reckoned, what is carried, what is still nothing. -/
def nx2 (pre : List Int) (c : Int) (m : Nat) : List Int := pre ++ c :: List.replicate m 0
theorem nx2_len (pre : List Int) (c : Int) (m : Nat) : (nx2 pre c m).length = pre.length + m + 1 := by simp [nx2]; omega
theorem nx2_at (pre : List Int) (c : Int) (m : Nat) (h : pre.length < (nx2 pre c m).length) : (nx2 pre c m)[pre.length] = c := by simp [nx2]
theorem nx2_at1 (pre : List Int) (c : Int) (m : Nat) (h : pre.length + 1 < (nx2 pre c m).length) : (nx2 pre c m)[pre.length + 1] = 0 := by
  rw [nx2_len] at h
  simp only [nx2]
  rw [List.getElem_append_right (by omega)]
  simp
theorem nx2_set1 (pre : List Int) (c t : Int) (m : Nat) : (nx2 pre c (m + 1)).set (pre.length + 1) t = pre ++ c :: t :: List.replicate m 0 := by
  unfold nx2
  rw [List.set_append_right _ _ (by omega), show pre.length + 1 - pre.length = 1 by omega, List.replicate_succ]
  rfl
theorem nx2_set (pre : List Int) (c t d : Int) (m : Nat) : (pre ++ c :: t :: List.replicate m 0).set pre.length d = nx2 (pre ++ [d]) t m := by
  unfold nx2
  rw [List.set_append_right _ _ (Nat.le_refl _), Nat.sub_self, List.append_assoc]
  rfl
theorem OB.low {B : Nat} {w w' : World} {g off n cap : Nat} {xs : List Int} {L : Nat} (h : OB (Value.int .i64) B w g off n cap xs) (hb : Below L w w') (hg : g < L) : OB (Value.int .i64) B w' g off n cap xs :=
  ⟨h.1, h.2.1, h.2.2.1, h.2.2.2.1, Nat.lt_of_lt_of_le h.hi hb.size, fun i hi => ⟨(hb.cell (p := ⟨g, off + i, none⟩) hg).trans (h.cell i hi), (hb.frozen (p := ⟨g, off + i, none⟩) hg).trans (h.free i hi)⟩⟩
theorem half_at (new old : List Int) (i : Nat) (h : i < (half new old i).length) (h1 : i < old.length) (h2 : i ≤ new.length) : (half new old i)[i] = old[i] := by
  have : (half new old i)[i]? = some old[i] := by
    unfold half
    rw [List.getElem?_append_right (by simp; omega), List.length_take, Nat.min_eq_left h2, Nat.sub_self, List.getElem?_drop, Nat.add_zero, List.getElem?_eq_getElem h1]
  exact (List.getElem?_eq_some_iff.1 this).2
theorem bd64 {p z : Int} (hp : p ≤ 257) (h : 0 ≤ z ∧ z < p) : I64 z := by constructor <;> omega
theorem bd_i64 {p : Int} {zs : List Int} (hp : p ≤ 257) (h : ∀ z ∈ zs, 0 ≤ z ∧ z < p) : AllI64 zs := fun z hz => bd64 hp (h z hz)
set_option maxHeartbeats 8000000 in
theorem termsThrough_any (p : Int) (hp : prm p = true) (vp vs : Value) (ps ss : List Int) (hl : ps.length = ss.length) (h1 : 1 ≤ ps.length) (h8 : ps.length ≤ 8) (hps : ∀ z ∈ ps, 0 ≤ z ∧ z < p) (hss : ∀ z ∈ ss, 0 ≤ z ∧ z < p) (hd : Dst ps) (w : World) (h : RI w vp ps) (h' : RI w vs ss) :
    Calls Try.prog 27 #[.int .i64 p, vp, vs] w fun e w' => ∃ v', e = .returned v' ∧ OI w.heap.size w' v' (trm p ps ss) ∧ Below w.heap.size w w' := by
  obtain ⟨hp1, hp2⟩ := prm_bd hp
  obtain ⟨aop, capp, rfl⟩ := h.shape
  obtain ⟨aos, caps, rfl⟩ := h'.shape
  obtain ⟨bp, op, e0, -, hcp⟩ := h.2.cells (by omega)
  obtain rfl := e0
  obtain ⟨bs, os, e0, -, hcs⟩ := h'.2.cells (by omega)
  obtain rfl := e0
  obtain ⟨i0, hinf, hz0, hz1, hz2⟩ := info_parts info_int
  have Hps := Lib.hid hps
  have Hss := Lib.hid hss
  have Hl := Lib.hid hl
  have Hd := Lib.hid hd
  have Hcp := Lib.hid hcp
  have Hcs := Lib.hid hcs
  have Htl := Lib.hid (show ∀ i (_ : i < ps.length), (tmF p i 0 ps [1]).length = ps.length from fun i hi => tm_len p ps i hi)
  have hsl : ps.length ≤ ss.length := by omega
  clear hps hss hl hd hcp hcs h h'
  go_enter Try.func27, Try.ntmps27
  go_wp2_with (at_make; refine wpList_make_full _ rfl _ _ 24 rfl w.heap.size 2 i0 (.int .i64 0) 1 Try.underlying24 hinf hz0 hz1 _ _ _ _ ps.length rfl rfl rfl rfl (by rw [hz2]; omega) (by unfold maxLen; omega) (Nat.le_refl _) ?_)
  intro w1 hown hgrow
  have hB : Below w.heap.size w w1 := grow_below hgrow
  have hob := make_ob (show 0 < ps.length by omega) hown
  clear hown hgrow
  go_wp2_with fail
  go_loopw [25] (fun iv wr => ∃ (i : Nat) (cur : List Int), iv = .int .i64 i ∧ i ≤ ps.length ∧ cur.length = ps.length ∧ (∀ z ∈ cur, 0 ≤ z ∧ z < p) ∧ tsF p ps ss (ps.length - i) i cur = trm p ps ss ∧ OB (Value.int .i64) w.heap.size wr w.heap.size 0 ps.length ps.length cur ∧ Below w.heap.size w wr) (fun iv _ => ps.length - (intOf iv).toNat)
  case atStart => exact ⟨0, _, rfl, Nat.zero_le _, by simp, (fun z hz => by have := List.eq_of_mem_replicate hz; omega), rfl, hob, hB⟩
  case round =>
    clear hob hB
    obtain ⟨i, cur, rfl, hi, hcl, hcb, hq, hob, hB⟩ := hrel
    have Hcl := Lib.hid hcl
    have Hcb := Lib.hid hcb
    have Hob := Lib.hid hob
    have HB := Lib.hid hB
    clear hcl hcb hob hB
    by_cases hil : i < ps.length
    · rw [show ps.length - i = (ps.length - (i + 1)) + 1 by omega, tsF] at hq
      have Hq := Lib.hid hq
      clear hq
      have hpi := Hps.out ps[i] (List.getElem_mem _)
      have hci := cnext HB.out (Hcp.out i hil)
      have Hgi := Lib.hid (gI_eq hil)
      have hIl := Htl.out i hil
      generalize ps[i] = pi at *
      have HTL := Lib.hid hIl
      clear hIl
      obtain ⟨wo, rfl⟩ : ∃ wo : World, wo = wr := ⟨_, rfl⟩
      go_wp2_with fail
      go_loopw [10, 11, 33] (fun tv dv kv wr => ∃ (k : Nat) (ts : List Int) (dn : Int) (gt ot ct : Nat), kv = .int .i64 k ∧ k ≤ ps.length ∧ tv = .slice (some ⟨gt, ot, none⟩) ts.length ct ∧ dv = .int .i64 dn ∧ 0 < dn ∧ dn < p ∧ (∀ z ∈ ts, 0 ≤ z ∧ z < p) ∧ 1 ≤ ts.length ∧ ts.length ≤ k + 1 ∧ tmF p i k (ps.drop k) ts = tmF p i 0 ps [1] ∧ prodF p pi i k (ps.drop k) dn = prodF p pi i 0 ps 1 ∧ OB (Value.int .i64) wo.heap.size wr gt ot ts.length ct ts ∧ Below wo.heap.size wo wr) (fun _ _ kv _ => ps.length - (intOf kv).toNat)
      case atStart =>
        refine ⟨0, [1], 1, wo.heap.size, 0, 1, rfl, Nat.zero_le _, rfl, rfl, by omega, by omega, (fun z hz => by obtain rfl := List.mem_singleton.1 hz; omega), by simp, by simp, by rw [List.drop_zero], by rw [List.drop_zero], ⟨rfl, by simp, by unfold maxLen; simp, Nat.le_refl _, by simp, fun m hm => ?_⟩, by go_grown⟩
        have h7 := heap_alloc_new wo (.cells #[.int .i64 1] 2)
        obtain rfl : m = 0 := by simpa using hm
        exact ⟨by rw [cell_of_row _ _ _ _ _ _ h7]; rfl, frozen_of_row _ _ _ _ _ h7⟩
      case round =>
        obtain ⟨k, ts, dn, gt, ot, ct, rfl, hk, rfl, rfl, hd0, hd1, htb, ht1, htl, hqt, hqd, hot, hB1⟩ := hrel
        have hgl := hot.lo
        have Hot := Lib.hid hot
        have Htb := Lib.hid htb
        clear hot htb
        by_cases hkl : k < ps.length
        · rw [List.drop_eq_getElem_cons hkl, tmF] at hqt
          rw [List.drop_eq_getElem_cons hkl, prodF] at hqd
          have hpk := Hps.out ps[k] (List.getElem_mem _)
          have hck := cnext hB1 (cnext HB.out (Hcp.out k hkl))
          have hne0 := fun (e : k ≠ i) (hil' : i < ps.length) => Hd.out i k hil' hkl (fun e2 => e e2.symm)
          have Hgi2 := Lib.hid (fun hil' => (gI_eq hil' : gI ps i = ps[i]))
          have hcw := Hcp.out k hkl
          have HNE := Lib.hid hne0
          clear hne0
          generalize hpke : ps[k] = o at *
          have Hpke := Lib.hid hpke
          clear hpke
          by_cases hki : k = i
          · subst hki
            rw [if_pos rfl] at hqt hqd
            have Hqt := Lib.hid hqt
            have Hqd := Lib.hid hqd
            clear hqt hqd
            have hne : ((k : Int) == (k : Int)) = true := by simp
            have hkI : (k : Int) < (ps.length : Int) := by omega
            go_wp2_with fail
            go_roundw
            case rel => exact ⟨k + 1, ts, dn, gt, ot, ct, by go_num, by omega, rfl, rfl, hd0, hd1, Htb.out, ht1, by omega, Hqt.out, Hqd.out, Hot.out, hB1⟩
            case measure => simp [intOf] <;> omega
          · rw [if_neg hki] at hqt hqd
            have Hqt := Lib.hid hqt
            have Hqd := Lib.hid hqd
            clear hqt hqd
            have hne : ((k : Int) == (i : Int)) = false := by simp; omega
            have hki2 : (k : Int) < (ps.length : Int) := by omega
            have hii2 : (i : Int) < (ps.length : Int) := by omega
            have hpio : pi ≠ o := by
              have h1 := HNE.out hki hil
              have h3 : ps[i] = pi := by rw [← Hgi2.out hil]; exact Hgi.out
              rw [h3] at h1; exact h1
            have HmL := Lib.hid (mulC_len p o 0 ts)
            have hsz1 := hB1.size
            clear HNE Hgi2 Hpke
            go_wp2_with (at_make; go_must (refine wpList_make_full _ rfl _ _ 24 rfl wr.heap.size 2 i0 (.int .i64 0) 1 Try.underlying24 hinf hz0 hz1 _ _ _ _ (ts.length + 1) rfl rfl (by omega) (by omega) (by rw [hz2]; omega) (by unfold maxLen; omega) (Nat.le_refl _) ?_))
            intro w2 hown2 hgrow2
            have hB2 : Below wr.heap.size wr w2 := grow_below hgrow2
            have hob2 := make_ob (show 0 < ts.length + 1 by omega) hown2
            have hot2 := Hot.out.below hB2
            have hgn := Hot.out.hi
            clear hown2 hgrow2 hck hci
            have hBo := hB1.trans (hB2.mono hsz1)
            obtain ⟨gn, hgn0⟩ : ∃ gn, wr.heap.size = gn := ⟨_, rfl⟩
            rw [hgn0] at hob2 hgn hsz1
            have HB2 := Lib.hid hBo
            have hck := cnext (HB.out.trans (hBo.mono HB.out.size)) hcw
            have Hot2 := Lib.hid hot2
            clear hot2 hB1 hB2 hBo Hot
            rw [hgn0]
            clear hgn0
            obtain ⟨w2o, rfl⟩ : ∃ w2o : World, w2o = w2 := ⟨_, rfl⟩
            go_wp2_with fail
            go_loopw [47] (fun jv wr => ∃ (j : Nat) (pre : List Int) (c : Int), jv = .int .i64 j ∧ j ≤ ts.length ∧ pre.length = j ∧ 0 ≤ c ∧ c < p ∧ (∀ z ∈ pre, 0 ≤ z ∧ z < p) ∧ pre ++ mulC p o c (ts.drop j) = mulC p o 0 ts ∧ OB (Value.int .i64) gn wr gn 0 (ts.length + 1) (ts.length + 1) (nx2 pre c (ts.length - j)) ∧ Below gn w2o wr) (fun jv _ => ts.length - (intOf jv).toNat)
            case atStart => exact ⟨0, [], 0, rfl, Nat.zero_le _, rfl, by omega, by omega, (fun z hz => by cases hz), by rw [List.drop_zero]; rfl, by rw [Nat.sub_zero]; exact hob2, Below.refl _ _⟩
            case round =>
              clear hob2 hck
              obtain ⟨j, pre, c, rfl, hj, hpl, hc0, hc1, hpb, hqj, hobn, hBn⟩ := hrel
              have hotj := Hot2.out.low hBn hgn
              have Hotj := Lib.hid hotj
              have hckj := (hBn.cell (p := ⟨bp, op + k, none⟩) (by have h1 : bp < w.heap.size := World.block_lt_of_cell? _ _ hcw; have := HB.out.size; show bp < gn; omega)).trans (cnext (HB.out.trans (HB2.out.mono HB.out.size)) hcw)
              have Hpl := Lib.hid hpl
              have Hpb := Lib.hid hpb
              clear hpl hpb hotj
              by_cases hjl : j < ts.length
              · have hctj := Hotj.out.cell j hjl
                have htj := Htb.out ts[j] (List.getElem_mem _)
                rw [List.drop_eq_getElem_cons hjl, mulC] at hqj
                generalize ts[j] = t at *
                have Hqj := Lib.hid (show (pre ++ [(c + t * (p - o)) % p]) ++ mulC p o (t % p) (ts.drop (j + 1)) = mulC p o 0 ts by rw [← hqj, List.append_assoc]; rfl)
                rw [show ts.length - j = (ts.length - (j + 1)) + 1 by omega] at hobn
                have l0 : j < (nx2 pre c (ts.length - (j + 1) + 1)).length := by rw [nx2_len, Hpl.out]; omega
                have l1 : j + 1 < (nx2 pre c (ts.length - (j + 1) + 1)).length := by rw [nx2_len, Hpl.out]; omega
                have cn0 := hobn.cell j l0
                have cn1 := hobn.cell (j + 1) l1
                have fn0 := hobn.free j l0
                have fn1 := hobn.free (j + 1) l1
                have g0 : (nx2 pre c (ts.length - (j + 1) + 1))[j] = c := by
                  have h := nx2_at pre c (ts.length - (j + 1) + 1) (by rw [Hpl.out]; exact l0)
                  simp only [Hpl.out] at h; exact h
                have g1 : (nx2 pre c (ts.length - (j + 1) + 1))[j + 1] = 0 := by
                  have h := nx2_at1 pre c (ts.length - (j + 1) + 1) (by rw [Hpl.out]; exact l1)
                  simp only [Hpl.out] at h; exact h
                rw [g0, Nat.zero_add] at cn0
                rw [g1, Nat.zero_add] at cn1
                rw [Nat.zero_add] at fn0 fn1
                have m1 : 0 ≤ t * (p - o) := Int.mul_nonneg htj.1 (by omega)
                have m2 : t * (p - o) ≤ 257 * 257 := Int.mul_le_mul (by omega) (by omega) (by omega) (by decide)
                have q1 := Int.emod_nonneg (c + t * (p - o)) (show p ≠ 0 by omega)
                have q2 := Int.emod_lt_of_pos (c + t * (p - o)) (show 0 < p by omega)
                have q3 := Int.emod_nonneg t (show p ≠ 0 by omega)
                have q4 := Int.emod_lt_of_pos t (show 0 < p by omega)
                have hjI : (j : Int) < (ts.length : Int) := by omega
                have hjI1 : (j : Int) < ((ts.length + 1 : Nat) : Int) := by omega
                have hjI2 : (j : Int) + 1 < ((ts.length + 1 : Nat) : Int) := by omega
                have Hb3 := Lib.hid (show ∀ m, OB (Value.int .i64) gn ((wr.drewN m).setCell ⟨gn, j + 1, none⟩ (.int .i64 (t % p))) gn 0 (ts.length + 1) (ts.length + 1) (pre ++ c :: (t % p) :: List.replicate (ts.length - (j + 1)) 0) from fun m => by
                  have h := (hobn.below (below_drewN wr m)).put (j + 1) l1 (t % p)
                  have e := nx2_set1 pre c (t % p) (ts.length - (j + 1))
                  rw [Hpl.out] at e
                  rw [e, Nat.zero_add] at h; exact h)
                have hBz : ∀ {W : World} (a b : Nat) (x : Value), Below gn w2o W → Below gn w2o (W.setCell ⟨gn, b, none⟩ x) := fun a b x h => h.setCell (p := ⟨gn, b, none⟩) (Nat.le_refl _) x
                have hgw : gn < wr.heap.size := hobn.hi
                clear hqj g0 g1 l0 l1 hobn
                go_wp2_with fail
                go_roundw
                case rel =>
                  have h3 := Hb3.out 0
                  have h4 := h3.put j (by rw [List.length_append, Hpl.out]; first | (simp; done) | (simp; omega)) ((c + t * (p - o)) % p)
                  have e := nx2_set pre c (t % p) ((c + t * (p - o)) % p) (ts.length - (j + 1))
                  rw [Hpl.out] at e
                  rw [e, Nat.zero_add] at h4
                  exact ⟨j + 1, pre ++ [(c + t * (p - o)) % p], t % p, by go_num, by omega, by rw [List.length_append, Hpl.out, List.length_singleton], q3, q4, (fun z hz => by rcases List.mem_append.1 hz with hz | hz; exact Hpb.out z hz; obtain rfl := List.mem_singleton.1 hz; exact ⟨q1, q2⟩), Hqj.out, h4, hBz 0 _ _ (hBz 0 _ _ hBn)⟩
                case measure => simp [intOf] <;> omega
              · have hje : j = ts.length := by omega
                subst hje
                rw [List.drop_length, mulC] at hqj
                rw [Nat.sub_self] at hobn
                have hfin : nx2 pre c 0 = mulC p o 0 ts := by rw [← hqj]; rfl
                rw [hfin] at hobn
                have Hob3 := Lib.hid (show OB (Value.int .i64) wo.heap.size wr gn 0 (mulC p o 0 ts).length (ts.length + 1) (mulC p o 0 ts) by rw [HmL.out]; exact hobn.mono hsz1)
                have Hqt3 := Lib.hid (Hqt.out)
                have hB3 : Below wo.heap.size wo wr := HB2.out.trans (hBn.mono hsz1)
                have HmB := Lib.hid (mulC_bd (show 0 < p by omega) o (show (0 : Int) ≤ 0 ∧ (0 : Int) < p by omega) ts)
                have hci3 := cnext (HB.out.trans (hB3.mono HB.out.size)) (Hcp.out i hil)
                rw [show ps[i] = pi by rw [← gI_eq hil]; exact Hgi.out] at hci3
                have v0 : 0 < (pi - o + p) % p := by
                  have h1 := Int.emod_nonneg (pi - o + p) (show p ≠ 0 by omega)
                  rcases Int.lt_or_le pi o with hlt | hge
                  · rw [Int.emod_eq_of_lt (by omega) (by omega)]; omega
                  · rw [Int.add_emod_right, Int.emod_eq_of_lt (by omega) (by omega)]; omega
                have v1 := Int.emod_lt_of_pos (pi - o + p) (show 0 < p by omega)
                have Hmm := Lib.hid (mul_mod_mod dn (pi - o + p) p)
                have hdm : dn * ((pi - o + p) % p) % p ≠ 0 := mul_ne hp hd0 hd1 (by rw [Int.emod_eq_of_lt (by omega) v1]; omega)
                have d1 := Int.emod_nonneg (dn * ((pi - o + p) % p)) (show p ≠ 0 by omega)
                have d2 := Int.emod_lt_of_pos (dn * ((pi - o + p) % p)) (show 0 < p by omega)
                have hmlen : (mulC p o 0 ts).length ≤ k + 2 := by rw [HmL.out]; omega
                have hmlen1 : 1 ≤ (mulC p o 0 ts).length := by rw [HmL.out]; omega
                clear hqj hfin hobn
                have m3 : 0 ≤ dn * (pi - o + p) := Int.mul_nonneg (by omega) (by omega)
                have m4 : dn * (pi - o + p) ≤ 257 * 514 := Int.mul_le_mul (by omega) (by omega) (by omega) (by decide)
                go_wp2_with fail
                go_roundw
                case rel => exact ⟨k + 1, mulC p o 0 ts, dn * ((pi - o + p) % p) % p, gn, 0, ts.length + 1, by go_num, by omega, by rw [HmL.out], by rw [Hmm.out], by omega, d2, HmB.out, hmlen1, by omega, Hqt3.out, by rw [Hmm.out]; exact Hqd.out, Hob3.out, hB3⟩
                case measure => simp [intOf] <;> omega
        · rw [List.drop_of_length_le (by omega)] at hqt hqd
          rw [tmF] at hqt
          rw [prodF] at hqd
          have hq2 := Hq.out
          rw [← hqt] at hq2
          have hBI := Lib.hid (show byI p ps ss i = gI ss i * invI p dn % p by unfold byI; rw [Hgi.out, ← hqd])
          have htL : ts.length = ps.length := by rw [hqt]; exact HTL.out
          have HtL := Lib.hid htL
          have Hq2 := Lib.hid hq2
          have hiv := invI_bd (n := dn) hp
          have hsi := Hss.out ss[i] (List.getElem_mem _)
          have Hsi := Lib.hid (gI_eq (show i < ss.length by omega))
          have hcsi := cnext hB1 (cnext HB.out (Hcs.out i (by omega)))
          have hB3 := HB.out.trans (hB1.mono HB.out.size)
          have hob3 := Hob.out.below hB1
          generalize ss[i] = si at *
          have iI : (i : Int) < (ss.length : Int) := by omega
          have i0 : (0 : Int) ≤ (i : Int) := by omega
          have pne : p ≠ 0 := by omega
          have p0 : (p == 0) = false := by simp; omega
          clear hqt hqd hq2 htL
          have Hcl2 := Lib.hid (show Calls Try.prog 42 #[.int .i64 p, .int .i64 dn] wr fun e w' => e = .returned (.int .i64 (invI p dn)) ∧ wr = w' from inverse_any p dn hp (by omega) hd1 _)
          have Hcall := Lib.hid (show ∀ q, Calls Try.prog 42 #[.int .i64 p, .int .i64 dn] (wr.drewN q) fun e w' => e = .returned (.int .i64 (invI p dn)) ∧ wr.drewN q = w' from fun q => inverse_any p dn hp (by omega) hd1 _)
          generalize invI p dn = v at *
          have m1 : 0 ≤ si * v := Int.mul_nonneg hsi.1 hiv.1
          have m2 : si * v ≤ 257 * 257 := Int.mul_le_mul (by omega) (by omega) (by omega) (by decide)
          have q1 := Int.emod_nonneg (si * v) pne
          have q2 := Int.emod_lt_of_pos (si * v) (show 0 < p by omega)
          have t1 : (si * v).tmod p = si * v % p := Int.tmod_eq_emod_of_nonneg m1
          have e1 : IntKind.i64.wrap (si * v) = si * v := IntWalk.i64_in _ (by omega)
          have e2 : IntKind.i64.wrap (si * v % p) = si * v % p := IntWalk.i64_in _ (by omega)
          have Hby := Lib.hid (show byI p ps ss i = si * v % p by rw [hBI, Hsi.out])
          clear hBI
          go_wp2_with fail
          go_quiet ((go_at_call 42; exact Calls.quiet_of (qi (Hcall.out _))))
          clear t1 e1 e2
          have hot4 := Hot.out.below (below_drewN wr nq)
          have hob4 := hob3.below (below_drewN wr nq)
          have hB4 := hB3.trans ((below_drewN wr nq).mono (by have := hB3.size; omega))
          have HAD := Lib.hid (show tsF p ps ss (ps.length - (i + 1)) (i + 1) (addF p (si * v % p) cur ts) = trm p ps ss by rw [← Hby.out]; exact Hq2.out)
          have HAL := Lib.hid (show (addF p (si * v % p) cur ts).length = cur.length from addF_len (by rw [Hcl.out, HtL.out]))
          have HAB := Lib.hid (addF_bd (show 0 < p by omega) (si * v % p) cur ts)
          have HAA := Lib.hid (show ∀ j (h : j < (addF p (si * v % p) cur ts).length) (h1 : j < cur.length) (h2 : j < ts.length), (addF p (si * v % p) cur ts)[j] = (cur[j] + ts[j] * (si * v % p)) % p from fun j h h1 h2 => by simp [addF])
          clear hob3 hB3 Hot Hcl2 Hcall Hby Hq2 m1 m2
          generalize wr.drewN nq = wz at *
          generalize hb : si * v % p = b at *
          clear hb
          generalize hAD : addF p b cur ts = AD at *
          clear hAD
          have htLA : ts.length ≤ ps.length := by have := HtL.out; omega
          have htLB : ps.length ≤ ts.length := by have := HtL.out; omega
          have hclA : cur.length ≤ ps.length := by have := Hcl.out; omega
          have hclB : ps.length ≤ cur.length := by have := Hcl.out; omega
          have hALA : AD.length ≤ ps.length := by have := HAL.out; have := Hcl.out; omega
          have hALB : ps.length ≤ AD.length := by have := HAL.out; have := Hcl.out; omega
          have Hh0 := Lib.hid (half_zero AD cur)
          go_wp2_with fail
          go_loopw [104] (fun jv wr => ∃ (j : Nat), jv = .int .i64 j ∧ j ≤ ts.length ∧ OB (Value.int .i64) w.heap.size wr w.heap.size 0 ps.length ps.length (half AD cur j) ∧ OB (Value.int .i64) wo.heap.size wr gt ot ts.length ct ts ∧ Below w.heap.size w wr) (fun jv _ => ts.length - (intOf jv).toNat)
          case atStart => exact ⟨0, rfl, Nat.zero_le _, by rw [Hh0.out]; exact hob4, hot4, hB4⟩
          case round =>
            clear hob4 hot4 hB4
            obtain ⟨j, rfl, hj, hob5, hot5, hB5⟩ := hrel
            have hgne : w.heap.size < gt := by have := Hob.out.hi; omega
            by_cases hjl : j < ts.length
            · have hctj := hot5.cell j hjl
              have htj := Htb.out ts[j] (List.getElem_mem _)
              have lh : j < (half AD cur j).length := by rw [half_len _ _ _ (by omega) (by omega)]; omega
              have chj := hob5.cell j lh
              have fhj := hob5.free j lh
              have huj := Hcb.out cur[j] (List.getElem_mem (by omega))
              have hgh : (half AD cur j)[j] = cur[j] := half_at AD cur j lh (by omega) (by omega)
              have HA1 := Lib.hid (HAA.out j (by omega) (by omega) hjl)
              have Hput := Lib.hid (show ∀ m, OB (Value.int .i64) w.heap.size ((wr.drewN m).setCell ⟨w.heap.size, j, none⟩ (.int .i64 AD[j])) w.heap.size 0 ps.length ps.length (half AD cur (j + 1)) from fun m => by
                have h := (hob5.below (below_drewN wr m)).put j lh AD[j]
                rw [half_set AD cur j (by omega) (by omega), Nat.zero_add] at h; exact h)
              have Hfar := Lib.hid (show ∀ m x, OB (Value.int .i64) wo.heap.size ((wr.drewN m).setCell ⟨w.heap.size, j, none⟩ x) gt ot ts.length ct ts from fun m x => (hot5.below (below_drewN wr m)).far _ x (by show w.heap.size ≠ gt; omega))
              have Hbel := Lib.hid (show ∀ m x, Below w.heap.size w ((wr.drewN m).setCell ⟨w.heap.size, j, none⟩ x) from fun m x => (hB5.trans ((below_drewN wr m).mono (by have := hB5.size; omega))).setCell (p := ⟨w.heap.size, j, none⟩) (Nat.le_refl _) x)
              rw [hgh, Nat.zero_add] at chj
              rw [Nat.zero_add] at fhj
              generalize ts[j] = t at *
              generalize cur[j]'(by omega) = u at *
              have m1 : 0 ≤ t * b := Int.mul_nonneg htj.1 (by omega)
              have m2 : t * b ≤ 257 * 257 := Int.mul_le_mul (by omega) (by omega) (by omega) (by decide)
              have m3 := Int.emod_nonneg (u + t * b) pne
              have m4 := Int.emod_lt_of_pos (u + t * b) (show 0 < p by omega)
              have hjI : (j : Int) < (ts.length : Int) := by omega
              have hjI2 : (j : Int) < (ps.length : Int) := by omega
              have j0 : (0 : Int) ≤ (j : Int) := by omega
              clear hgh hob5 hot5 hB5
              have m5 : b * t = t * b := Int.mul_comm _ _
              rw [← m5] at m1 m2 m3 m4 HA1
              clear m5
              go_wp2_with fail
              go_roundw
              case rel =>
                have h1 := Hput.out 0
                have h2 := Hfar.out 0 (.int .i64 ((u + b * t) % p))
                have h3 := Hbel.out 0 (.int .i64 ((u + b * t) % p))
                rw [HA1.out] at h1
                exact ⟨j + 1, by go_num, by omega, h1, h2, h3⟩
              case measure => simp [intOf] <;> omega
            · have hje : j = ts.length := by omega
              subst hje
              have hha := half_all AD cur ts.length (by omega) (by omega)
              rw [hha] at hob5
              clear hha
              have Hfin := Lib.hid (And.intro hob5 hB5)
              clear hob5 hot5 hB5
              go_wp2_with fail
              go_roundw
              case rel => exact ⟨i + 1, AD, by go_num, by omega, by have := HAL.out; have := Hcl.out; omega, HAB.out, HAD.out, Hfin.out.1, Hfin.out.2⟩
              case measure => simp [intOf] <;> omega
    · have hie : i = ps.length := by omega
      subst hie
      rw [Nat.sub_self, tsF] at hq
      have HF := Lib.hid (show OI w.heap.size wr (.slice (some ⟨w.heap.size, 0, none⟩) ps.length ps.length) (trm p ps ss) by
        rw [← hq]
        have h1 := Hob.out.og
        exact ⟨bd_i64 hp2 Hcb.out, h1⟩)
      clear hq
      go_wp2
      go_ret
      exact ⟨_, rfl, HF.out, HB.out⟩
set_option maxHeartbeats 8000000 in
theorem l06Terms_any (p : Int) (hp : prm p = true) (vp vs : Value) (ps ss : List Int) (hl : ps.length = ss.length) (h1 : 1 ≤ ps.length) (h8 : ps.length ≤ 8) (hps : ∀ z ∈ ps, 0 ≤ z ∧ z < p) (hss : ∀ z ∈ ss, 0 ≤ z ∧ z < p) (hd : Dst ps) (w : World) (h : RI w vp ps) (h' : RI w vs ss) :
    Calls Try.prog 34 #[.int .i64 p, vp, vs] w fun e w' => ∃ v', e = .returned v' ∧ OI w.heap.size w' v' (trm p ps ss) ∧ Below w.heap.size w w' := by
  obtain ⟨hp1, hp2⟩ := prm_bd hp
  obtain ⟨aop, capp, rfl⟩ := h.shape
  obtain ⟨aos, caps, rfl⟩ := h'.shape
  obtain ⟨bp, op, e0, -, hcp⟩ := h.2.cells (by omega)
  obtain rfl := e0
  obtain ⟨bs, os, e0, -, hcs⟩ := h'.2.cells (by omega)
  obtain rfl := e0
  obtain ⟨i0, hinf, hz0, hz1, hz2⟩ := info_parts info_int
  have Hps := Lib.hid hps
  have Hss := Lib.hid hss
  have Hl := Lib.hid hl
  have Hd := Lib.hid hd
  have Hcp := Lib.hid hcp
  have Hcs := Lib.hid hcs
  have Htl := Lib.hid (show ∀ i (_ : i < ps.length), (tmF p i 0 ps [1]).length = ps.length from fun i hi => tm_len p ps i hi)
  have hsl : ps.length ≤ ss.length := by omega
  clear hps hss hl hd hcp hcs h h'
  go_enter Try.func34, Try.ntmps34
  go_wp2_with (at_make; refine wpList_make_full _ rfl _ _ 24 rfl w.heap.size 2 i0 (.int .i64 0) 1 Try.underlying24 hinf hz0 hz1 _ _ _ _ ps.length rfl rfl rfl rfl (by rw [hz2]; omega) (by unfold maxLen; omega) (Nat.le_refl _) ?_)
  intro w1 hown hgrow
  have hB : Below w.heap.size w w1 := grow_below hgrow
  have hob := make_ob (show 0 < ps.length by omega) hown
  clear hown hgrow
  go_wp2_with fail
  go_loopw [8] (fun iv wr => ∃ (i : Nat) (cur : List Int), iv = .int .i64 i ∧ i ≤ ps.length ∧ cur.length = ps.length ∧ (∀ z ∈ cur, 0 ≤ z ∧ z < p) ∧ tsF p ps ss (ps.length - i) i cur = trm p ps ss ∧ OB (Value.int .i64) w.heap.size wr w.heap.size 0 ps.length ps.length cur ∧ Below w.heap.size w wr) (fun iv _ => ps.length - (intOf iv).toNat)
  case atStart => exact ⟨0, _, rfl, Nat.zero_le _, by simp, (fun z hz => by have := List.eq_of_mem_replicate hz; omega), rfl, hob, hB⟩
  case round =>
    clear hob hB
    obtain ⟨i, cur, rfl, hi, hcl, hcb, hq, hob, hB⟩ := hrel
    have Hcl := Lib.hid hcl
    have Hcb := Lib.hid hcb
    have Hob := Lib.hid hob
    have HB := Lib.hid hB
    clear hcl hcb hob hB
    by_cases hil : i < ps.length
    · rw [show ps.length - i = (ps.length - (i + 1)) + 1 by omega, tsF] at hq
      have Hq := Lib.hid hq
      clear hq
      have hpi := Hps.out ps[i] (List.getElem_mem _)
      have hci := cnext HB.out (Hcp.out i hil)
      have Hgi := Lib.hid (gI_eq hil)
      have hIl := Htl.out i hil
      generalize ps[i] = pi at *
      have HTL := Lib.hid hIl
      clear hIl
      obtain ⟨wo, rfl⟩ : ∃ wo : World, wo = wr := ⟨_, rfl⟩
      go_wp2_with fail
      go_loopw [9, 10, 11] (fun tv dv kv wr => ∃ (k : Nat) (ts : List Int) (dn : Int) (gt ot ct : Nat), kv = .int .i64 k ∧ k ≤ ps.length ∧ tv = .slice (some ⟨gt, ot, none⟩) ts.length ct ∧ dv = .int .i64 dn ∧ 0 < dn ∧ dn < p ∧ (∀ z ∈ ts, 0 ≤ z ∧ z < p) ∧ 1 ≤ ts.length ∧ ts.length ≤ k + 1 ∧ tmF p i k (ps.drop k) ts = tmF p i 0 ps [1] ∧ prodF p pi i k (ps.drop k) dn = prodF p pi i 0 ps 1 ∧ OB (Value.int .i64) wo.heap.size wr gt ot ts.length ct ts ∧ Below wo.heap.size wo wr) (fun _ _ kv _ => ps.length - (intOf kv).toNat)
      case atStart =>
        refine ⟨0, [1], 1, wo.heap.size, 0, 1, rfl, Nat.zero_le _, rfl, rfl, by omega, by omega, (fun z hz => by obtain rfl := List.mem_singleton.1 hz; omega), by simp, by simp, by rw [List.drop_zero], by rw [List.drop_zero], ⟨rfl, by simp, by unfold maxLen; simp, Nat.le_refl _, by simp, fun m hm => ?_⟩, by go_grown⟩
        have h7 := heap_alloc_new wo (.cells #[.int .i64 1] 2)
        obtain rfl : m = 0 := by simpa using hm
        exact ⟨by rw [cell_of_row _ _ _ _ _ _ h7]; rfl, frozen_of_row _ _ _ _ _ h7⟩
      case round =>
        obtain ⟨k, ts, dn, gt, ot, ct, rfl, hk, rfl, rfl, hd0, hd1, htb, ht1, htl, hqt, hqd, hot, hB1⟩ := hrel
        have hgl := hot.lo
        have Hot := Lib.hid hot
        have Htb := Lib.hid htb
        clear hot htb
        by_cases hkl : k < ps.length
        · rw [List.drop_eq_getElem_cons hkl, tmF] at hqt
          rw [List.drop_eq_getElem_cons hkl, prodF] at hqd
          have hpk := Hps.out ps[k] (List.getElem_mem _)
          have hck := cnext hB1 (cnext HB.out (Hcp.out k hkl))
          have hne0 := fun (e : k ≠ i) (hil' : i < ps.length) => Hd.out i k hil' hkl (fun e2 => e e2.symm)
          have Hgi2 := Lib.hid (fun hil' => (gI_eq hil' : gI ps i = ps[i]))
          have hcw := Hcp.out k hkl
          have HNE := Lib.hid hne0
          clear hne0
          generalize hpke : ps[k] = o at *
          have Hpke := Lib.hid hpke
          clear hpke
          by_cases hki : k = i
          · subst hki
            rw [if_pos rfl] at hqt hqd
            have Hqt := Lib.hid hqt
            have Hqd := Lib.hid hqd
            clear hqt hqd
            have hne : ((k : Int) == (k : Int)) = true := by simp
            have hkI : (k : Int) < (ps.length : Int) := by omega
            go_wp2_with fail
            go_roundw
            case rel => exact ⟨k + 1, ts, dn, gt, ot, ct, by go_num, by omega, rfl, rfl, hd0, hd1, Htb.out, ht1, by omega, Hqt.out, Hqd.out, Hot.out, hB1⟩
            case measure => simp [intOf] <;> omega
          · rw [if_neg hki] at hqt hqd
            have Hqt := Lib.hid hqt
            have Hqd := Lib.hid hqd
            clear hqt hqd
            have hne : ((k : Int) == (i : Int)) = false := by simp; omega
            have hki2 : (k : Int) < (ps.length : Int) := by omega
            have hii2 : (i : Int) < (ps.length : Int) := by omega
            have hpio : pi ≠ o := by
              have h1 := HNE.out hki hil
              have h3 : ps[i] = pi := by rw [← Hgi2.out hil]; exact Hgi.out
              rw [h3] at h1; exact h1
            have HmL := Lib.hid (mulC_len p o 0 ts)
            have hsz1 := hB1.size
            clear HNE Hgi2 Hpke
            go_wp2_with (at_make; go_must (refine wpList_make_full _ rfl _ _ 24 rfl wr.heap.size 2 i0 (.int .i64 0) 1 Try.underlying24 hinf hz0 hz1 _ _ _ _ (ts.length + 1) rfl rfl (by omega) (by omega) (by rw [hz2]; omega) (by unfold maxLen; omega) (Nat.le_refl _) ?_))
            intro w2 hown2 hgrow2
            have hB2 : Below wr.heap.size wr w2 := grow_below hgrow2
            have hob2 := make_ob (show 0 < ts.length + 1 by omega) hown2
            have hot2 := Hot.out.below hB2
            have hgn := Hot.out.hi
            clear hown2 hgrow2 hck hci
            have hBo := hB1.trans (hB2.mono hsz1)
            obtain ⟨gn, hgn0⟩ : ∃ gn, wr.heap.size = gn := ⟨_, rfl⟩
            rw [hgn0] at hob2 hgn hsz1
            have HB2 := Lib.hid hBo
            have hck := cnext (HB.out.trans (hBo.mono HB.out.size)) hcw
            have Hot2 := Lib.hid hot2
            clear hot2 hB1 hB2 hBo Hot
            rw [hgn0]
            clear hgn0
            obtain ⟨w2o, rfl⟩ : ∃ w2o : World, w2o = w2 := ⟨_, rfl⟩
            go_wp2_with fail
            go_loopw [13] (fun jv wr => ∃ (j : Nat) (pre : List Int) (c : Int), jv = .int .i64 j ∧ j ≤ ts.length ∧ pre.length = j ∧ 0 ≤ c ∧ c < p ∧ (∀ z ∈ pre, 0 ≤ z ∧ z < p) ∧ pre ++ mulC p o c (ts.drop j) = mulC p o 0 ts ∧ OB (Value.int .i64) gn wr gn 0 (ts.length + 1) (ts.length + 1) (nx2 pre c (ts.length - j)) ∧ Below gn w2o wr) (fun jv _ => ts.length - (intOf jv).toNat)
            case atStart => exact ⟨0, [], 0, rfl, Nat.zero_le _, rfl, by omega, by omega, (fun z hz => by cases hz), by rw [List.drop_zero]; rfl, by rw [Nat.sub_zero]; exact hob2, Below.refl _ _⟩
            case round =>
              clear hob2 hck
              obtain ⟨j, pre, c, rfl, hj, hpl, hc0, hc1, hpb, hqj, hobn, hBn⟩ := hrel
              have hotj := Hot2.out.low hBn hgn
              have Hotj := Lib.hid hotj
              have hckj := (hBn.cell (p := ⟨bp, op + k, none⟩) (by have h1 : bp < w.heap.size := World.block_lt_of_cell? _ _ hcw; have := HB.out.size; show bp < gn; omega)).trans (cnext (HB.out.trans (HB2.out.mono HB.out.size)) hcw)
              have Hpl := Lib.hid hpl
              have Hpb := Lib.hid hpb
              clear hpl hpb hotj
              by_cases hjl : j < ts.length
              · have hctj := Hotj.out.cell j hjl
                have htj := Htb.out ts[j] (List.getElem_mem _)
                rw [List.drop_eq_getElem_cons hjl, mulC] at hqj
                generalize ts[j] = t at *
                have Hqj := Lib.hid (show (pre ++ [(c + t * (p - o)) % p]) ++ mulC p o (t % p) (ts.drop (j + 1)) = mulC p o 0 ts by rw [← hqj, List.append_assoc]; rfl)
                rw [show ts.length - j = (ts.length - (j + 1)) + 1 by omega] at hobn
                have l0 : j < (nx2 pre c (ts.length - (j + 1) + 1)).length := by rw [nx2_len, Hpl.out]; omega
                have l1 : j + 1 < (nx2 pre c (ts.length - (j + 1) + 1)).length := by rw [nx2_len, Hpl.out]; omega
                have cn0 := hobn.cell j l0
                have cn1 := hobn.cell (j + 1) l1
                have fn0 := hobn.free j l0
                have fn1 := hobn.free (j + 1) l1
                have g0 : (nx2 pre c (ts.length - (j + 1) + 1))[j] = c := by
                  have h := nx2_at pre c (ts.length - (j + 1) + 1) (by rw [Hpl.out]; exact l0)
                  simp only [Hpl.out] at h; exact h
                have g1 : (nx2 pre c (ts.length - (j + 1) + 1))[j + 1] = 0 := by
                  have h := nx2_at1 pre c (ts.length - (j + 1) + 1) (by rw [Hpl.out]; exact l1)
                  simp only [Hpl.out] at h; exact h
                rw [g0, Nat.zero_add] at cn0
                rw [g1, Nat.zero_add] at cn1
                rw [Nat.zero_add] at fn0 fn1
                have m1 : 0 ≤ t * (p - o) := Int.mul_nonneg htj.1 (by omega)
                have m2 : t * (p - o) ≤ 257 * 257 := Int.mul_le_mul (by omega) (by omega) (by omega) (by decide)
                have q1 := Int.emod_nonneg (c + t * (p - o)) (show p ≠ 0 by omega)
                have q2 := Int.emod_lt_of_pos (c + t * (p - o)) (show 0 < p by omega)
                have q3 := Int.emod_nonneg t (show p ≠ 0 by omega)
                have q4 := Int.emod_lt_of_pos t (show 0 < p by omega)
                have hjI : (j : Int) < (ts.length : Int) := by omega
                have hjI1 : (j : Int) < ((ts.length + 1 : Nat) : Int) := by omega
                have hjI2 : (j : Int) + 1 < ((ts.length + 1 : Nat) : Int) := by omega
                have Hb3 := Lib.hid (show ∀ m, OB (Value.int .i64) gn ((wr.drewN m).setCell ⟨gn, j + 1, none⟩ (.int .i64 (t % p))) gn 0 (ts.length + 1) (ts.length + 1) (pre ++ c :: (t % p) :: List.replicate (ts.length - (j + 1)) 0) from fun m => by
                  have h := (hobn.below (below_drewN wr m)).put (j + 1) l1 (t % p)
                  have e := nx2_set1 pre c (t % p) (ts.length - (j + 1))
                  rw [Hpl.out] at e
                  rw [e, Nat.zero_add] at h; exact h)
                have hBz : ∀ {W : World} (a b : Nat) (x : Value), Below gn w2o W → Below gn w2o (W.setCell ⟨gn, b, none⟩ x) := fun a b x h => h.setCell (p := ⟨gn, b, none⟩) (Nat.le_refl _) x
                have hgw : gn < wr.heap.size := hobn.hi
                clear hqj g0 g1 l0 l1 hobn
                have cn1' := cn1
                have hv0 : IntKind.i64.wrap t = t := IntWalk.i64_in _ (by omega)
                have hv1 : IntKind.i64.wrap (t % p) = t % p := IntWalk.i64_in _ (by omega)
                have tm0 : t.tmod p = t % p := Int.tmod_eq_emod_of_nonneg (by omega)
                have hw1 : IntKind.i64.wrap ((j : Int) + 1) = (j : Int) + 1 := IntWalk.i64_in _ (by omega)
                have hn1 : ((j : Int) + 1).toNat = j + 1 := by omega
                have j0 : (0 : Int) ≤ (j : Int) := by omega
                have j1 : (0 : Int) ≤ (j : Int) + 1 := by omega
                have hjI1' : (j : Int) < (ts.length : Int) + 1 := by omega
                have hjI2' : (j : Int) + 1 < (ts.length : Int) + 1 := by omega
                have pne : p ≠ 0 := by omega
                have p0 : (p == 0) = false := by simp; omega
                have hck0 : (0 : Int) ≤ (k : Int) := by omega
                have hckI : (k : Int) < (ps.length : Int) := by omega
                go_wp2_with fail
                refine wp_region_held_tail 16 (S := fun W' => W'.cell? ⟨gn, j + 1, none⟩ = some (.int .i64 0) ∧ W'.cell? ⟨gt, ot + j, none⟩ = some (.int .i64 t)) (by kernel_rfl) (by decide +kernel) ?_ (fun hHeld => ?_)
                · (try go_split_ands); refine ⟨?_, ?_⟩ <;> first | assumption | exact cnext (by assumption) (by assumption) | (go_keep; done)
                simp only [List.take_succ_cons, List.take_zero, List.drop_succ_cons, List.drop_zero, List.length_cons, List.length_nil, Nat.reduceAdd]
                refine wpAnyH_tk (i := 0) (v := ?_) (some 45) rfl rfl (by kernel_rfl) (by decide +kernel) (by decide +kernel) (fun _ _ _ h => h) (by kernel_rfl) ?_ hHeld ?_
                rotate_left
                · (intro w hSw; (try dsimp only at hSw); go_simp <;> with_reducible rfl)
                (try simp only [Act.put, List.setIfInBounds_toArray, List.set_cons_zero, List.set_cons_succ])
                refine wpAnyH_tk (i := 1) (v := ?_) (some 46) rfl rfl (by kernel_rfl) (by decide +kernel) (by decide +kernel) (fun _ _ _ h => h) (by kernel_rfl) ?_ hHeld ?_
                rotate_left
                · (intro w hSw; (try dsimp only at hSw); go_simp <;> with_reducible rfl)
                (try simp only [Act.put, List.setIfInBounds_toArray, List.set_cons_zero, List.set_cons_succ])
                refine wpAnyH_tk (i := 2) (v := ?_) (some 47) rfl rfl (by kernel_rfl) (by decide +kernel) (by decide +kernel) (fun _ _ _ h => h) (by kernel_rfl) ?_ hHeld ?_
                rotate_left
                · (intro w hSw; (try dsimp only at hSw); go_simp <;> with_reducible rfl)
                (try simp only [Act.put, List.setIfInBounds_toArray, List.set_cons_zero, List.set_cons_succ])
                refine wpAnyH_tk (i := 3) (v := ?_) (some 48) rfl rfl (by kernel_rfl) (by decide +kernel) (by decide +kernel) (fun _ _ _ h => h) (by kernel_rfl) ?_ hHeld ?_
                rotate_left
                · (intro w hSw; (try dsimp only at hSw); go_simp <;> with_reducible rfl)
                (try simp only [Act.put, List.setIfInBounds_toArray, List.set_cons_zero, List.set_cons_succ])
                refine wpAnyH_tk (i := 4) (v := ?_) (some 49) rfl rfl (by kernel_rfl) (by decide +kernel) (by decide +kernel) (fun _ _ _ h => h) (by kernel_rfl) ?_ hHeld ?_
                rotate_left
                · (intro w hSw; (try dsimp only at hSw); go_simp <;> with_reducible rfl)
                (try simp only [Act.put, List.setIfInBounds_toArray, List.set_cons_zero, List.set_cons_succ])
                refine wpAnyH_tk (i := 5) (v := ?_) (some 50) rfl rfl (by kernel_rfl) (by decide +kernel) (by decide +kernel) (fun _ _ _ h => h) (by kernel_rfl) ?_ hHeld ?_
                rotate_left
                · (intro w hSw; (try dsimp only at hSw); go_simp <;> with_reducible rfl)
                (try simp only [Act.put, List.setIfInBounds_toArray, List.set_cons_zero, List.set_cons_succ])
                refine wpAnyH_tk (i := 6) (v := ?_) (some 51) rfl rfl (by kernel_rfl) (by decide +kernel) (by decide +kernel) (fun _ _ _ h => h) (by kernel_rfl) ?_ hHeld ?_
                rotate_left
                · (intro w hSw; (try dsimp only at hSw); go_simp <;> with_reducible rfl)
                (try simp only [Act.put, List.setIfInBounds_toArray, List.set_cons_zero, List.set_cons_succ])
                refine wpAnyH_tk (i := 7) (v := ?_) (some 52) rfl rfl (by kernel_rfl) (by decide +kernel) (by decide +kernel) (fun _ _ _ h => h) (by kernel_rfl) ?_ hHeld ?_
                rotate_left
                · (intro w hSw; (try dsimp only at hSw); go_simp <;> with_reducible rfl)
                (try simp only [Act.put, List.setIfInBounds_toArray, List.set_cons_zero, List.set_cons_succ])
                refine wpAnyH_tk (i := 8) (v := ?_) (some 53) rfl rfl (by kernel_rfl) (by decide +kernel) (by decide +kernel) (fun _ _ _ h => h) (by kernel_rfl) ?_ hHeld ?_
                rotate_left
                · (intro w hSw; (try dsimp only at hSw); go_simp <;> with_reducible rfl)
                (try simp only [Act.put, List.setIfInBounds_toArray, List.set_cons_zero, List.set_cons_succ])
                refine wpAnyH_tk (i := 9) (v := ?_) (some 54) rfl rfl (by kernel_rfl) (by decide +kernel) (by decide +kernel) (fun _ _ _ h => h) (by kernel_rfl) ?_ hHeld ?_
                rotate_left
                · (intro w hSw; (try dsimp only at hSw); go_simp <;> with_reducible rfl)
                (try simp only [Act.put, List.setIfInBounds_toArray, List.set_cons_zero, List.set_cons_succ])
                refine wpAnyH_tk (i := 10) (v := ?_) (some 55) rfl rfl (by kernel_rfl) (by decide +kernel) (by decide +kernel) (fun _ _ _ h => h) (by kernel_rfl) ?_ hHeld ?_
                rotate_left
                · (intro w hSw; (try dsimp only at hSw); go_simp <;> with_reducible rfl)
                (try simp only [Act.put, List.setIfInBounds_toArray, List.set_cons_zero, List.set_cons_succ])
                refine wpAnyH_tk (i := 11) (v := ?_) (some 56) rfl rfl (by kernel_rfl) (by decide +kernel) (by decide +kernel) (fun _ _ _ h => h) (by kernel_rfl) ?_ hHeld ?_
                rotate_left
                · (intro w hSw; (try dsimp only at hSw); go_simp <;> with_reducible rfl)
                (try simp only [Act.put, List.setIfInBounds_toArray, List.set_cons_zero, List.set_cons_succ])
                refine wpAnyH_tk (i := 12) (v := ?_) (some 57) rfl rfl (by kernel_rfl) (by decide +kernel) (by decide +kernel) (fun _ _ _ h => h) (by kernel_rfl) ?_ hHeld ?_
                rotate_left
                · (intro w hSw; (try dsimp only at hSw); go_simp <;> with_reducible rfl)
                (try simp only [Act.put, List.setIfInBounds_toArray, List.set_cons_zero, List.set_cons_succ])
                refine wpAnyH_tk (i := 13) (v := ?_) (some 58) rfl rfl (by kernel_rfl) (by decide +kernel) (by decide +kernel) (fun _ _ _ h => h) (by kernel_rfl) ?_ hHeld ?_
                rotate_left
                · (intro w hSw; (try dsimp only at hSw); go_simp <;> with_reducible rfl)
                (try simp only [Act.put, List.setIfInBounds_toArray, List.set_cons_zero, List.set_cons_succ])
                refine wpAnyH_tk (i := 14) (v := ?_) (some 59) rfl rfl (by kernel_rfl) (by decide +kernel) (by decide +kernel) (fun _ _ _ h => h) (by kernel_rfl) ?_ hHeld ?_
                rotate_left
                · (intro w hSw; (try dsimp only at hSw); go_simp <;> with_reducible rfl)
                (try simp only [Act.put, List.setIfInBounds_toArray, List.set_cons_zero, List.set_cons_succ])
                refine wpAnyH_tk (i := 15) (v := ?_) (some 60) rfl rfl (by kernel_rfl) (by decide +kernel) (by decide +kernel) (fun _ _ _ h => h) (by kernel_rfl) ?_ hHeld ?_
                rotate_left
                · (intro w hSw; (try dsimp only at hSw); go_simp <;> with_reducible rfl)
                (try simp only [Act.put, List.setIfInBounds_toArray, List.set_cons_zero, List.set_cons_succ])
                refine wpAnyH_done (by kernel_rfl) ?_ _
                show wpList _ _ _ _ _ _
                have cn1q : wr.drew.cell? ⟨gn, j + 1, none⟩ = some (.int .i64 0) := cn1
                have fn1q : wr.drew.frozen? ⟨gn, j + 1, none⟩ = false := fn1
                have cn0q : wr.drew.cell? ⟨gn, j, none⟩ = some (.int .i64 c) := cn0
                have fn0q : wr.drew.frozen? ⟨gn, j, none⟩ = false := fn0
                have hctq : wr.drew.cell? ⟨gt, ot + j, none⟩ = some (.int .i64 t) := hctj
                have hckq : wr.drew.cell? ⟨bp, op + k, none⟩ = some (.int .i64 o) := hckj
                have h3q := Hb3.out 1
                rw [show wr.drewN 1 = wr.drew from rfl] at h3q
                have hBq : Below gn w2o wr.drew := hBn.trans ((below_drewN wr 1).mono (by omega))
                have hgnne : gt ≠ gn := by omega
                have hbpne : bp ≠ gn := by have h1 : bp < w.heap.size := World.block_lt_of_cell? _ _ hcw; have := HB.out.size; omega
                clear hgw cn1 cn1' fn1 cn0 fn0 hctj hckj Hb3 hBn hHeld
                generalize wr.drew = wq at *
                have cn04 : (wq.setCell ⟨gn, j + 1, none⟩ (.int .i64 (t % p))).cell? ⟨gn, j, none⟩ = some (.int .i64 c) := by rw [World.cell?_setCell_other (a := ⟨gn, j + 1, none⟩) (b := ⟨gn, j, none⟩) (h := by first | (simp; done) | (simp; omega))]; exact cn0q
                have hct4 : (wq.setCell ⟨gn, j + 1, none⟩ (.int .i64 (t % p))).cell? ⟨gt, ot + j, none⟩ = some (.int .i64 t) := by rw [World.cell?_setCell_other (a := ⟨gn, j + 1, none⟩) (b := ⟨gt, ot + j, none⟩) (h := by first | (simp; done) | (simp; omega))]; exact hctq
                have hck4 : (wq.setCell ⟨gn, j + 1, none⟩ (.int .i64 (t % p))).cell? ⟨bp, op + k, none⟩ = some (.int .i64 o) := by rw [World.cell?_setCell_other (a := ⟨gn, j + 1, none⟩) (b := ⟨bp, op + k, none⟩) (h := by first | (simp; done) | (simp; omega))]; exact hckq
                have fn04 : (wq.setCell ⟨gn, j + 1, none⟩ (.int .i64 (t % p))).frozen? ⟨gn, j, none⟩ = false := by rw [World.frozen?_setCell]; exact fn0q
                have hB4 := hBz 0 (j + 1) (.int .i64 (t % p)) hBq
                have Hq4 := Lib.hid (And.intro h3q hB4)
                clear cn0q hctq hckq h3q hB4 hBq
                go_wp2_with fail
                clear cn1q fn1q hv1 tm0
                generalize wq.setCell ⟨gn, j + 1, none⟩ (.int .i64 (t % p)) = w4 at *
                have e1 : IntKind.i64.wrap (p - o) = p - o := IntWalk.i64_in _ (by omega)
                have e2 : IntKind.i64.wrap (t * (p - o)) = t * (p - o) := IntWalk.i64_in _ (by omega)
                have e3 : IntKind.i64.wrap (c + t * (p - o)) = c + t * (p - o) := IntWalk.i64_in _ (by omega)
                have e4 : IntKind.i64.wrap ((c + t * (p - o)) % p) = (c + t * (p - o)) % p := IntWalk.i64_in _ (by omega)
                have tm1 : (c + t * (p - o)).tmod p = (c + t * (p - o)) % p := Int.tmod_eq_emod_of_nonneg (by omega)
                refine wp_region_held_tail 21 (S := fun W' => W'.cell? ⟨gn, j, none⟩ = some (.int .i64 c) ∧ W'.cell? ⟨gt, ot + j, none⟩ = some (.int .i64 t) ∧ W'.cell? ⟨bp, op + k, none⟩ = some (.int .i64 o)) (by kernel_rfl) (by decide +kernel) ?_ (fun hHeld => ?_)
                · (try go_split_ands); refine ⟨?_, ?_, ?_⟩ <;> first | assumption | exact cnext (by assumption) (by assumption) | (go_keep; done)
                simp only [List.take_succ_cons, List.take_zero, List.drop_succ_cons, List.drop_zero, List.length_cons, List.length_nil, Nat.reduceAdd]
                refine wpAnyH_tk (i := 0) (v := ?_) (some 61) rfl rfl (by kernel_rfl) (by decide +kernel) (by decide +kernel) (fun _ _ _ h => h) (by kernel_rfl) ?_ hHeld ?_
                rotate_left
                · (intro w hSw; (try dsimp only at hSw); go_simp <;> with_reducible rfl)
                (try simp only [Act.put, List.setIfInBounds_toArray, List.set_cons_zero, List.set_cons_succ])
                refine wpAnyH_tk (i := 1) (v := ?_) (some 62) rfl rfl (by kernel_rfl) (by decide +kernel) (by decide +kernel) (fun _ _ _ h => h) (by kernel_rfl) ?_ hHeld ?_
                rotate_left
                · (intro w hSw; (try dsimp only at hSw); go_simp <;> with_reducible rfl)
                (try simp only [Act.put, List.setIfInBounds_toArray, List.set_cons_zero, List.set_cons_succ])
                refine wpAnyH_tk (i := 2) (v := ?_) (some 63) rfl rfl (by kernel_rfl) (by decide +kernel) (by decide +kernel) (fun _ _ _ h => h) (by kernel_rfl) ?_ hHeld ?_
                rotate_left
                · (intro w hSw; (try dsimp only at hSw); go_simp <;> with_reducible rfl)
                (try simp only [Act.put, List.setIfInBounds_toArray, List.set_cons_zero, List.set_cons_succ])
                refine wpAnyH_tk (i := 3) (v := ?_) (some 64) rfl rfl (by kernel_rfl) (by decide +kernel) (by decide +kernel) (fun _ _ _ h => h) (by kernel_rfl) ?_ hHeld ?_
                rotate_left
                · (intro w hSw; (try dsimp only at hSw); go_simp <;> with_reducible rfl)
                (try simp only [Act.put, List.setIfInBounds_toArray, List.set_cons_zero, List.set_cons_succ])
                refine wpAnyH_tk (i := 4) (v := ?_) (some 65) rfl rfl (by kernel_rfl) (by decide +kernel) (by decide +kernel) (fun _ _ _ h => h) (by kernel_rfl) ?_ hHeld ?_
                rotate_left
                · (intro w hSw; (try dsimp only at hSw); go_simp <;> with_reducible rfl)
                (try simp only [Act.put, List.setIfInBounds_toArray, List.set_cons_zero, List.set_cons_succ])
                refine wpAnyH_tk (i := 5) (v := ?_) (some 66) rfl rfl (by kernel_rfl) (by decide +kernel) (by decide +kernel) (fun _ _ _ h => h) (by kernel_rfl) ?_ hHeld ?_
                rotate_left
                · (intro w hSw; (try dsimp only at hSw); go_simp <;> with_reducible rfl)
                (try simp only [Act.put, List.setIfInBounds_toArray, List.set_cons_zero, List.set_cons_succ])
                refine wpAnyH_tk (i := 6) (v := ?_) (some 67) rfl rfl (by kernel_rfl) (by decide +kernel) (by decide +kernel) (fun _ _ _ h => h) (by kernel_rfl) ?_ hHeld ?_
                rotate_left
                · (intro w hSw; (try dsimp only at hSw); go_simp <;> with_reducible rfl)
                (try simp only [Act.put, List.setIfInBounds_toArray, List.set_cons_zero, List.set_cons_succ])
                refine wpAnyH_tk (i := 7) (v := ?_) (some 68) rfl rfl (by kernel_rfl) (by decide +kernel) (by decide +kernel) (fun _ _ _ h => h) (by kernel_rfl) ?_ hHeld ?_
                rotate_left
                · (intro w hSw; (try dsimp only at hSw); go_simp <;> with_reducible rfl)
                (try simp only [Act.put, List.setIfInBounds_toArray, List.set_cons_zero, List.set_cons_succ])
                refine wpAnyH_tk (i := 8) (v := ?_) (some 69) rfl rfl (by kernel_rfl) (by decide +kernel) (by decide +kernel) (fun _ _ _ h => h) (by kernel_rfl) ?_ hHeld ?_
                rotate_left
                · (intro w hSw; (try dsimp only at hSw); go_simp <;> with_reducible rfl)
                (try simp only [Act.put, List.setIfInBounds_toArray, List.set_cons_zero, List.set_cons_succ])
                refine wpAnyH_tk (i := 9) (v := ?_) (some 70) rfl rfl (by kernel_rfl) (by decide +kernel) (by decide +kernel) (fun _ _ _ h => h) (by kernel_rfl) ?_ hHeld ?_
                rotate_left
                · (intro w hSw; (try dsimp only at hSw); go_simp <;> with_reducible rfl)
                (try simp only [Act.put, List.setIfInBounds_toArray, List.set_cons_zero, List.set_cons_succ])
                refine wpAnyH_tk (i := 10) (v := ?_) (some 71) rfl rfl (by kernel_rfl) (by decide +kernel) (by decide +kernel) (fun _ _ _ h => h) (by kernel_rfl) ?_ hHeld ?_
                rotate_left
                · (intro w hSw; (try dsimp only at hSw); go_simp <;> with_reducible rfl)
                (try simp only [Act.put, List.setIfInBounds_toArray, List.set_cons_zero, List.set_cons_succ])
                refine wpAnyH_tk (i := 11) (v := ?_) (some 72) rfl rfl (by kernel_rfl) (by decide +kernel) (by decide +kernel) (fun _ _ _ h => h) (by kernel_rfl) ?_ hHeld ?_
                rotate_left
                · (intro w hSw; (try dsimp only at hSw); go_simp <;> with_reducible rfl)
                (try simp only [Act.put, List.setIfInBounds_toArray, List.set_cons_zero, List.set_cons_succ])
                refine wpAnyH_tk (i := 12) (v := ?_) (some 73) rfl rfl (by kernel_rfl) (by decide +kernel) (by decide +kernel) (fun _ _ _ h => h) (by kernel_rfl) ?_ hHeld ?_
                rotate_left
                · (intro w hSw; (try dsimp only at hSw); go_simp <;> with_reducible rfl)
                (try simp only [Act.put, List.setIfInBounds_toArray, List.set_cons_zero, List.set_cons_succ])
                refine wpAnyH_tk (i := 13) (v := ?_) (some 74) rfl rfl (by kernel_rfl) (by decide +kernel) (by decide +kernel) (fun _ _ _ h => h) (by kernel_rfl) ?_ hHeld ?_
                rotate_left
                · (intro w hSw; (try dsimp only at hSw); go_simp <;> with_reducible rfl)
                (try simp only [Act.put, List.setIfInBounds_toArray, List.set_cons_zero, List.set_cons_succ])
                refine wpAnyH_tk (i := 14) (v := ?_) (some 75) rfl rfl (by kernel_rfl) (by decide +kernel) (by decide +kernel) (fun _ _ _ h => h) (by kernel_rfl) ?_ hHeld ?_
                rotate_left
                · (intro w hSw; (try dsimp only at hSw); go_simp <;> with_reducible rfl)
                (try simp only [Act.put, List.setIfInBounds_toArray, List.set_cons_zero, List.set_cons_succ])
                refine wpAnyH_tk (i := 15) (v := ?_) (some 76) rfl rfl (by kernel_rfl) (by decide +kernel) (by decide +kernel) (fun _ _ _ h => h) (by kernel_rfl) ?_ hHeld ?_
                rotate_left
                · (intro w hSw; (try dsimp only at hSw); go_simp <;> with_reducible rfl)
                (try simp only [Act.put, List.setIfInBounds_toArray, List.set_cons_zero, List.set_cons_succ])
                refine wpAnyH_tk (i := 16) (v := ?_) (some 77) rfl rfl (by kernel_rfl) (by decide +kernel) (by decide +kernel) (fun _ _ _ h => h) (by kernel_rfl) ?_ hHeld ?_
                rotate_left
                · (intro w hSw; (try dsimp only at hSw); go_simp <;> with_reducible rfl)
                (try simp only [Act.put, List.setIfInBounds_toArray, List.set_cons_zero, List.set_cons_succ])
                refine wpAnyH_tk (i := 17) (v := ?_) (some 78) rfl rfl (by kernel_rfl) (by decide +kernel) (by decide +kernel) (fun _ _ _ h => h) (by kernel_rfl) ?_ hHeld ?_
                rotate_left
                · (intro w hSw; (try dsimp only at hSw); go_simp <;> with_reducible rfl)
                (try simp only [Act.put, List.setIfInBounds_toArray, List.set_cons_zero, List.set_cons_succ])
                refine wpAnyH_tk (i := 18) (v := ?_) (some 79) rfl rfl (by kernel_rfl) (by decide +kernel) (by decide +kernel) (fun _ _ _ h => h) (by kernel_rfl) ?_ hHeld ?_
                rotate_left
                · (intro w hSw; (try dsimp only at hSw); go_simp <;> with_reducible rfl)
                (try simp only [Act.put, List.setIfInBounds_toArray, List.set_cons_zero, List.set_cons_succ])
                refine wpAnyH_tk (i := 19) (v := ?_) (some 80) rfl rfl (by kernel_rfl) (by decide +kernel) (by decide +kernel) (fun _ _ _ h => h) (by kernel_rfl) ?_ hHeld ?_
                rotate_left
                · (intro w hSw; (try dsimp only at hSw); go_simp <;> with_reducible rfl)
                (try simp only [Act.put, List.setIfInBounds_toArray, List.set_cons_zero, List.set_cons_succ])
                refine wpAnyH_tk (i := 20) (v := ?_) (some 81) rfl rfl (by kernel_rfl) (by decide +kernel) (by decide +kernel) (fun _ _ _ h => h) (by kernel_rfl) ?_ hHeld ?_
                rotate_left
                · (intro w hSw; (try dsimp only at hSw); go_simp <;> with_reducible rfl)
                (try simp only [Act.put, List.setIfInBounds_toArray, List.set_cons_zero, List.set_cons_succ])
                refine wpAnyH_done (by kernel_rfl) ?_ _
                show wpList _ _ _ _ _ _
                have cn05 : w4.drew.cell? ⟨gn, j, none⟩ = some (.int .i64 c) := cn04
                have fn05 : w4.drew.frozen? ⟨gn, j, none⟩ = false := fn04
                have h3q := Hq4.out.1.below (below_drewN w4 1)
                have hBq : Below gn w2o w4.drew := Hq4.out.2.trans ((below_drewN w4 1).mono (by have := Hq4.out.1.hi; omega))
                rw [show w4.drewN 1 = w4.drew from rfl] at h3q
                have Hq5 := Lib.hid (And.intro h3q hBq)
                clear h3q hBq cn04 fn04 hct4 hck4 hHeld Hq4 e1 e2 e3 e4 tm1
                generalize w4.drew = w5 at *
                go_wp2_with fail
                go_roundw
                case rel =>
                  have h4 := Hq5.out.1.put j (by rw [List.length_append, Hpl.out]; first | (simp; done) | (simp; omega)) ((c + t * (p - o)) % p)
                  have e := nx2_set pre c (t % p) ((c + t * (p - o)) % p) (ts.length - (j + 1))
                  rw [Hpl.out] at e
                  rw [e, Nat.zero_add] at h4
                  exact ⟨j + 1, pre ++ [(c + t * (p - o)) % p], t % p, by go_num, by omega, by rw [List.length_append, Hpl.out, List.length_singleton], q3, q4, (fun z hz => by rcases List.mem_append.1 hz with hz | hz; exact Hpb.out z hz; obtain rfl := List.mem_singleton.1 hz; exact ⟨q1, q2⟩), Hqj.out, h4, hBz 0 _ _ Hq5.out.2⟩
                case measure => simp [intOf] <;> omega
              · have hje : j = ts.length := by omega
                subst hje
                rw [List.drop_length, mulC] at hqj
                rw [Nat.sub_self] at hobn
                have hfin : nx2 pre c 0 = mulC p o 0 ts := by rw [← hqj]; rfl
                rw [hfin] at hobn
                have Hob3 := Lib.hid (show OB (Value.int .i64) wo.heap.size wr gn 0 (mulC p o 0 ts).length (ts.length + 1) (mulC p o 0 ts) by rw [HmL.out]; exact hobn.mono hsz1)
                have Hqt3 := Lib.hid (Hqt.out)
                have hB3 : Below wo.heap.size wo wr := HB2.out.trans (hBn.mono hsz1)
                have HmB := Lib.hid (mulC_bd (show 0 < p by omega) o (show (0 : Int) ≤ 0 ∧ (0 : Int) < p by omega) ts)
                have hci3 := cnext (HB.out.trans (hB3.mono HB.out.size)) (Hcp.out i hil)
                rw [show ps[i] = pi by rw [← gI_eq hil]; exact Hgi.out] at hci3
                have v0 : 0 < (pi - o + p) % p := by
                  have h1 := Int.emod_nonneg (pi - o + p) (show p ≠ 0 by omega)
                  rcases Int.lt_or_le pi o with hlt | hge
                  · rw [Int.emod_eq_of_lt (by omega) (by omega)]; omega
                  · rw [Int.add_emod_right, Int.emod_eq_of_lt (by omega) (by omega)]; omega
                have v1 := Int.emod_lt_of_pos (pi - o + p) (show 0 < p by omega)
                have Hmm := Lib.hid (mul_mod_mod dn (pi - o + p) p)
                have hdm : dn * ((pi - o + p) % p) % p ≠ 0 := mul_ne hp hd0 hd1 (by rw [Int.emod_eq_of_lt (by omega) v1]; omega)
                have d1 := Int.emod_nonneg (dn * ((pi - o + p) % p)) (show p ≠ 0 by omega)
                have d2 := Int.emod_lt_of_pos (dn * ((pi - o + p) % p)) (show 0 < p by omega)
                have hmlen : (mulC p o 0 ts).length ≤ k + 2 := by rw [HmL.out]; omega
                have hmlen1 : 1 ≤ (mulC p o 0 ts).length := by rw [HmL.out]; omega
                clear hqj hfin hobn
                have hckd := (hBn.cell (p := ⟨bp, op + k, none⟩) (by have h1 : bp < w.heap.size := World.block_lt_of_cell? _ _ hcw; have := HB.out.size; show bp < gn; omega)).trans (cnext (HB.out.trans (HB2.out.mono HB.out.size)) hcw)
                have t3 : (pi - o + p).tmod p = (pi - o + p) % p := Int.tmod_eq_emod_of_nonneg (by omega)
                have e1 : IntKind.i64.wrap (pi - o) = pi - o := IntWalk.i64_in _ (by omega)
                have e2 : IntKind.i64.wrap (pi - o + p) = pi - o + p := IntWalk.i64_in _ (by omega)
                obtain ⟨b, hb⟩ : ∃ b, (pi - o + p) % p = b := ⟨_, rfl⟩
                rw [hb] at v0 v1 t3 d1 d2 hdm
                have Hb := Lib.hid hb
                clear hb
                have m3 : 0 ≤ dn * b := Int.mul_nonneg (by omega) (by omega)
                have m4 : dn * b ≤ 257 * 257 := Int.mul_le_mul (by omega) (by omega) (by omega) (by decide)
                have t4 : (dn * b).tmod p = dn * b % p := Int.tmod_eq_emod_of_nonneg (by omega)
                have e4 : IntKind.i64.wrap (dn * b) = dn * b := IntWalk.i64_in _ (by omega)
                have e5 : IntKind.i64.wrap (dn * b % p) = dn * b % p := IntWalk.i64_in _ (by omega)
                have e6 : IntKind.i64.wrap b = b := IntWalk.i64_in _ (by omega)
                have p0 : (p == 0) = false := by simp; omega
                have pne : p ≠ 0 := by omega
                have k0 : (0 : Int) ≤ (k : Int) := by omega
                have i0 : (0 : Int) ≤ (i : Int) := by omega
                go_wp2_with fail
                go_quiet (fail)
                clear t3 t4 e1 e2 e4 e5 e6
                have hob5 := Hob3.out.below (below_drewN wr nq)
                have hB5 := hB3.trans ((below_drewN wr nq).mono (by have := hB3.size; omega))
                have H5 := Lib.hid (And.intro hob5 hB5)
                clear hob5 hB5 Hob3 hB3
                go_wp2_with fail
                go_roundw
                case rel => exact ⟨k + 1, mulC p o 0 ts, dn * b % p, gn, 0, ts.length + 1, by go_num, by omega, by rw [HmL.out], rfl, by omega, d2, HmB.out, hmlen1, by omega, Hqt3.out, by rw [← Hb.out, Hmm.out]; exact Hqd.out, H5.out.1, H5.out.2⟩
                case measure => simp [intOf] <;> omega
        · rw [List.drop_of_length_le (by omega)] at hqt hqd
          rw [tmF] at hqt
          rw [prodF] at hqd
          have hq2 := Hq.out
          rw [← hqt] at hq2
          have hBI := Lib.hid (show byI p ps ss i = gI ss i * invI p dn % p by unfold byI; rw [Hgi.out, ← hqd])
          have htL : ts.length = ps.length := by rw [hqt]; exact HTL.out
          have HtL := Lib.hid htL
          have Hq2 := Lib.hid hq2
          have hiv := invI_bd (n := dn) hp
          have hsi := Hss.out ss[i] (List.getElem_mem _)
          have Hsi := Lib.hid (gI_eq (show i < ss.length by omega))
          have hcsi := cnext hB1 (cnext HB.out (Hcs.out i (by omega)))
          have hB3 := HB.out.trans (hB1.mono HB.out.size)
          have hob3 := Hob.out.below hB1
          generalize ss[i] = si at *
          have iI : (i : Int) < (ss.length : Int) := by omega
          have i0 : (0 : Int) ≤ (i : Int) := by omega
          have pne : p ≠ 0 := by omega
          have p0 : (p == 0) = false := by simp; omega
          clear hqt hqd hq2 htL
          have Hcl2 := Lib.hid (show Calls Try.prog 45 #[.int .i64 p, .int .i64 dn] wr fun e w' => e = .returned (.int .i64 (invI p dn)) ∧ wr = w' from l06Inverse_any p dn hp hd0 hd1 _)
          have Hcall := Lib.hid (show ∀ q, Calls Try.prog 45 #[.int .i64 p, .int .i64 dn] (wr.drewN q) fun e w' => e = .returned (.int .i64 (invI p dn)) ∧ wr.drewN q = w' from fun q => l06Inverse_any p dn hp hd0 hd1 _)
          generalize invI p dn = v at *
          have m1 : 0 ≤ si * v := Int.mul_nonneg hsi.1 hiv.1
          have m2 : si * v ≤ 257 * 257 := Int.mul_le_mul (by omega) (by omega) (by omega) (by decide)
          have q1 := Int.emod_nonneg (si * v) pne
          have q2 := Int.emod_lt_of_pos (si * v) (show 0 < p by omega)
          have t1 : (si * v).tmod p = si * v % p := Int.tmod_eq_emod_of_nonneg m1
          have e1 : IntKind.i64.wrap (si * v) = si * v := IntWalk.i64_in _ (by omega)
          have e2 : IntKind.i64.wrap (si * v % p) = si * v % p := IntWalk.i64_in _ (by omega)
          have Hby := Lib.hid (show byI p ps ss i = si * v % p by rw [hBI, Hsi.out])
          clear hBI
          go_wp2_with fail
          go_quiet ((go_at_call 45; exact Calls.quiet_of (qi (Hcall.out _))))
          clear t1 e1 e2
          have hot4 := Hot.out.below (below_drewN wr nq)
          have hob4 := hob3.below (below_drewN wr nq)
          have hB4 := hB3.trans ((below_drewN wr nq).mono (by have := hB3.size; omega))
          have HAD := Lib.hid (show tsF p ps ss (ps.length - (i + 1)) (i + 1) (addF p (si * v % p) cur ts) = trm p ps ss by rw [← Hby.out]; exact Hq2.out)
          have HAL := Lib.hid (show (addF p (si * v % p) cur ts).length = cur.length from addF_len (by rw [Hcl.out, HtL.out]))
          have HAB := Lib.hid (addF_bd (show 0 < p by omega) (si * v % p) cur ts)
          have HAA := Lib.hid (show ∀ j (h : j < (addF p (si * v % p) cur ts).length) (h1 : j < cur.length) (h2 : j < ts.length), (addF p (si * v % p) cur ts)[j] = (cur[j] + ts[j] * (si * v % p)) % p from fun j h h1 h2 => by simp [addF])
          clear hob3 hB3 Hot Hcl2 Hcall Hby Hq2 m1 m2
          generalize wr.drewN nq = wz at *
          generalize hb : si * v % p = b at *
          clear hb
          generalize hAD : addF p b cur ts = AD at *
          clear hAD
          have htLA : ts.length ≤ ps.length := by have := HtL.out; omega
          have htLB : ps.length ≤ ts.length := by have := HtL.out; omega
          have hclA : cur.length ≤ ps.length := by have := Hcl.out; omega
          have hclB : ps.length ≤ cur.length := by have := Hcl.out; omega
          have hALA : AD.length ≤ ps.length := by have := HAL.out; have := Hcl.out; omega
          have hALB : ps.length ≤ AD.length := by have := HAL.out; have := Hcl.out; omega
          have Hh0 := Lib.hid (half_zero AD cur)
          go_wp2_with fail
          go_loopw [15] (fun jv wr => ∃ (j : Nat), jv = .int .i64 j ∧ j ≤ ts.length ∧ OB (Value.int .i64) w.heap.size wr w.heap.size 0 ps.length ps.length (half AD cur j) ∧ OB (Value.int .i64) wo.heap.size wr gt ot ts.length ct ts ∧ Below w.heap.size w wr) (fun jv _ => ts.length - (intOf jv).toNat)
          case atStart => exact ⟨0, rfl, Nat.zero_le _, by rw [Hh0.out]; exact hob4, hot4, hB4⟩
          case round =>
            clear hob4 hot4 hB4
            obtain ⟨j, rfl, hj, hob5, hot5, hB5⟩ := hrel
            have hgne : w.heap.size < gt := by have := Hob.out.hi; omega
            by_cases hjl : j < ts.length
            · have hctj := hot5.cell j hjl
              have htj := Htb.out ts[j] (List.getElem_mem _)
              have lh : j < (half AD cur j).length := by rw [half_len _ _ _ (by omega) (by omega)]; omega
              have chj := hob5.cell j lh
              have fhj := hob5.free j lh
              have huj := Hcb.out cur[j] (List.getElem_mem (by omega))
              have hgh : (half AD cur j)[j] = cur[j] := half_at AD cur j lh (by omega) (by omega)
              have HA1 := Lib.hid (HAA.out j (by omega) (by omega) hjl)
              have Hput := Lib.hid (show ∀ m, OB (Value.int .i64) w.heap.size ((wr.drewN m).setCell ⟨w.heap.size, j, none⟩ (.int .i64 AD[j])) w.heap.size 0 ps.length ps.length (half AD cur (j + 1)) from fun m => by
                have h := (hob5.below (below_drewN wr m)).put j lh AD[j]
                rw [half_set AD cur j (by omega) (by omega), Nat.zero_add] at h; exact h)
              have Hfar := Lib.hid (show ∀ m x, OB (Value.int .i64) wo.heap.size ((wr.drewN m).setCell ⟨w.heap.size, j, none⟩ x) gt ot ts.length ct ts from fun m x => (hot5.below (below_drewN wr m)).far _ x (by show w.heap.size ≠ gt; omega))
              have Hbel := Lib.hid (show ∀ m x, Below w.heap.size w ((wr.drewN m).setCell ⟨w.heap.size, j, none⟩ x) from fun m x => (hB5.trans ((below_drewN wr m).mono (by have := hB5.size; omega))).setCell (p := ⟨w.heap.size, j, none⟩) (Nat.le_refl _) x)
              rw [hgh, Nat.zero_add] at chj
              rw [Nat.zero_add] at fhj
              generalize ts[j] = t at *
              generalize cur[j]'(by omega) = u at *
              have m1 : 0 ≤ t * b := Int.mul_nonneg htj.1 (by omega)
              have m2 : t * b ≤ 257 * 257 := Int.mul_le_mul (by omega) (by omega) (by omega) (by decide)
              have m3 := Int.emod_nonneg (u + t * b) pne
              have m4 := Int.emod_lt_of_pos (u + t * b) (show 0 < p by omega)
              have hjI : (j : Int) < (ts.length : Int) := by omega
              have hjI2 : (j : Int) < (ps.length : Int) := by omega
              have j0 : (0 : Int) ≤ (j : Int) := by omega
              clear hgh hob5 hot5 hB5
              have e1 : IntKind.i64.wrap (t * b) = t * b := IntWalk.i64_in _ (by omega)
              have e2 : IntKind.i64.wrap (u + t * b) = u + t * b := IntWalk.i64_in _ (by omega)
              have e3 : IntKind.i64.wrap ((u + t * b) % p) = (u + t * b) % p := IntWalk.i64_in _ (by omega)
              have tm1 : (u + t * b).tmod p = (u + t * b) % p := Int.tmod_eq_emod_of_nonneg (by omega)
              have e4 := e3
              go_wp2_with fail
              refine wp_region_held_tail 16 (S := fun W' => W'.cell? ⟨w.heap.size, j, none⟩ = some (.int .i64 u) ∧ W'.cell? ⟨gt, ot + j, none⟩ = some (.int .i64 t)) (by kernel_rfl) (by decide +kernel) ?_ (fun hHeld => ?_)
              · (try go_split_ands); refine ⟨?_, ?_⟩ <;> first | assumption | exact cnext (by assumption) (by assumption) | (go_keep; done)
              simp only [List.take_succ_cons, List.take_zero, List.drop_succ_cons, List.drop_zero, List.length_cons, List.length_nil, Nat.reduceAdd]
              refine wpAnyH_tk (i := 0) (v := ?_) (some 116) rfl rfl (by kernel_rfl) (by decide +kernel) (by decide +kernel) (fun _ _ _ h => h) (by kernel_rfl) ?_ hHeld ?_
              rotate_left
              · (intro w hSw; (try dsimp only at hSw); go_simp <;> with_reducible rfl)
              (try simp only [Act.put, List.setIfInBounds_toArray, List.set_cons_zero, List.set_cons_succ])
              refine wpAnyH_tk (i := 1) (v := ?_) (some 117) rfl rfl (by kernel_rfl) (by decide +kernel) (by decide +kernel) (fun _ _ _ h => h) (by kernel_rfl) ?_ hHeld ?_
              rotate_left
              · (intro w hSw; (try dsimp only at hSw); go_simp <;> with_reducible rfl)
              (try simp only [Act.put, List.setIfInBounds_toArray, List.set_cons_zero, List.set_cons_succ])
              refine wpAnyH_tk (i := 2) (v := ?_) (some 118) rfl rfl (by kernel_rfl) (by decide +kernel) (by decide +kernel) (fun _ _ _ h => h) (by kernel_rfl) ?_ hHeld ?_
              rotate_left
              · (intro w hSw; (try dsimp only at hSw); go_simp <;> with_reducible rfl)
              (try simp only [Act.put, List.setIfInBounds_toArray, List.set_cons_zero, List.set_cons_succ])
              refine wpAnyH_tk (i := 3) (v := ?_) (some 119) rfl rfl (by kernel_rfl) (by decide +kernel) (by decide +kernel) (fun _ _ _ h => h) (by kernel_rfl) ?_ hHeld ?_
              rotate_left
              · (intro w hSw; (try dsimp only at hSw); go_simp <;> with_reducible rfl)
              (try simp only [Act.put, List.setIfInBounds_toArray, List.set_cons_zero, List.set_cons_succ])
              refine wpAnyH_tk (i := 4) (v := ?_) (some 120) rfl rfl (by kernel_rfl) (by decide +kernel) (by decide +kernel) (fun _ _ _ h => h) (by kernel_rfl) ?_ hHeld ?_
              rotate_left
              · (intro w hSw; (try dsimp only at hSw); go_simp <;> with_reducible rfl)
              (try simp only [Act.put, List.setIfInBounds_toArray, List.set_cons_zero, List.set_cons_succ])
              refine wpAnyH_tk (i := 5) (v := ?_) (some 121) rfl rfl (by kernel_rfl) (by decide +kernel) (by decide +kernel) (fun _ _ _ h => h) (by kernel_rfl) ?_ hHeld ?_
              rotate_left
              · (intro w hSw; (try dsimp only at hSw); go_simp <;> with_reducible rfl)
              (try simp only [Act.put, List.setIfInBounds_toArray, List.set_cons_zero, List.set_cons_succ])
              refine wpAnyH_tk (i := 6) (v := ?_) (some 122) rfl rfl (by kernel_rfl) (by decide +kernel) (by decide +kernel) (fun _ _ _ h => h) (by kernel_rfl) ?_ hHeld ?_
              rotate_left
              · (intro w hSw; (try dsimp only at hSw); go_simp <;> with_reducible rfl)
              (try simp only [Act.put, List.setIfInBounds_toArray, List.set_cons_zero, List.set_cons_succ])
              refine wpAnyH_tk (i := 7) (v := ?_) (some 123) rfl rfl (by kernel_rfl) (by decide +kernel) (by decide +kernel) (fun _ _ _ h => h) (by kernel_rfl) ?_ hHeld ?_
              rotate_left
              · (intro w hSw; (try dsimp only at hSw); go_simp <;> with_reducible rfl)
              (try simp only [Act.put, List.setIfInBounds_toArray, List.set_cons_zero, List.set_cons_succ])
              refine wpAnyH_tk (i := 8) (v := ?_) (some 124) rfl rfl (by kernel_rfl) (by decide +kernel) (by decide +kernel) (fun _ _ _ h => h) (by kernel_rfl) ?_ hHeld ?_
              rotate_left
              · (intro w hSw; (try dsimp only at hSw); go_simp <;> with_reducible rfl)
              (try simp only [Act.put, List.setIfInBounds_toArray, List.set_cons_zero, List.set_cons_succ])
              refine wpAnyH_tk (i := 9) (v := ?_) (some 125) rfl rfl (by kernel_rfl) (by decide +kernel) (by decide +kernel) (fun _ _ _ h => h) (by kernel_rfl) ?_ hHeld ?_
              rotate_left
              · (intro w hSw; (try dsimp only at hSw); go_simp <;> with_reducible rfl)
              (try simp only [Act.put, List.setIfInBounds_toArray, List.set_cons_zero, List.set_cons_succ])
              refine wpAnyH_tk (i := 10) (v := ?_) (some 126) rfl rfl (by kernel_rfl) (by decide +kernel) (by decide +kernel) (fun _ _ _ h => h) (by kernel_rfl) ?_ hHeld ?_
              rotate_left
              · (intro w hSw; (try dsimp only at hSw); go_simp <;> with_reducible rfl)
              (try simp only [Act.put, List.setIfInBounds_toArray, List.set_cons_zero, List.set_cons_succ])
              refine wpAnyH_tk (i := 11) (v := ?_) (some 127) rfl rfl (by kernel_rfl) (by decide +kernel) (by decide +kernel) (fun _ _ _ h => h) (by kernel_rfl) ?_ hHeld ?_
              rotate_left
              · (intro w hSw; (try dsimp only at hSw); go_simp <;> with_reducible rfl)
              (try simp only [Act.put, List.setIfInBounds_toArray, List.set_cons_zero, List.set_cons_succ])
              refine wpAnyH_tk (i := 12) (v := ?_) (some 128) rfl rfl (by kernel_rfl) (by decide +kernel) (by decide +kernel) (fun _ _ _ h => h) (by kernel_rfl) ?_ hHeld ?_
              rotate_left
              · (intro w hSw; (try dsimp only at hSw); go_simp <;> with_reducible rfl)
              (try simp only [Act.put, List.setIfInBounds_toArray, List.set_cons_zero, List.set_cons_succ])
              refine wpAnyH_tk (i := 13) (v := ?_) (some 129) rfl rfl (by kernel_rfl) (by decide +kernel) (by decide +kernel) (fun _ _ _ h => h) (by kernel_rfl) ?_ hHeld ?_
              rotate_left
              · (intro w hSw; (try dsimp only at hSw); go_simp <;> with_reducible rfl)
              (try simp only [Act.put, List.setIfInBounds_toArray, List.set_cons_zero, List.set_cons_succ])
              refine wpAnyH_tk (i := 14) (v := ?_) (some 130) rfl rfl (by kernel_rfl) (by decide +kernel) (by decide +kernel) (fun _ _ _ h => h) (by kernel_rfl) ?_ hHeld ?_
              rotate_left
              · (intro w hSw; (try dsimp only at hSw); go_simp <;> with_reducible rfl)
              (try simp only [Act.put, List.setIfInBounds_toArray, List.set_cons_zero, List.set_cons_succ])
              refine wpAnyH_tk (i := 15) (v := ?_) (some 131) rfl rfl (by kernel_rfl) (by decide +kernel) (by decide +kernel) (fun _ _ _ h => h) (by kernel_rfl) ?_ hHeld ?_
              rotate_left
              · (intro w hSw; (try dsimp only at hSw); go_simp <;> with_reducible rfl)
              (try simp only [Act.put, List.setIfInBounds_toArray, List.set_cons_zero, List.set_cons_succ])
              refine wpAnyH_done (by kernel_rfl) ?_ _
              show wpList _ _ _ _ _ _
              have chj1 : wr.drew.cell? ⟨w.heap.size, j, none⟩ = some (.int .i64 u) := chj
              have fhj1 : wr.drew.frozen? ⟨w.heap.size, j, none⟩ = false := fhj
              have hP1 := Hput.out 1
              have hF1 := Hfar.out 1 (.int .i64 ((u + t * b) % p))
              have hL1 := Hbel.out 1 (.int .i64 ((u + t * b) % p))
              rw [show wr.drewN 1 = wr.drew from rfl] at hP1 hF1 hL1
              clear Hput Hfar Hbel chj fhj hHeld hctj
              generalize wr.drew = wq at *
              have HP1 := Lib.hid hP1
              have HF1 := Lib.hid hF1
              have HL1 := Lib.hid hL1
              clear hP1 hF1 hL1 e1 e2 e3 e4 tm1
              go_wp2_with fail
              go_roundw
              case rel =>
                have h1 := HP1.out
                have h2 := HF1.out
                have h3 := HL1.out
                rw [HA1.out] at h1
                exact ⟨j + 1, by go_num, by omega, h1, h2, h3⟩
              case measure => simp [intOf] <;> omega
            · have hje : j = ts.length := by omega
              subst hje
              have hha := half_all AD cur ts.length (by omega) (by omega)
              rw [hha] at hob5
              clear hha
              have Hfin := Lib.hid (And.intro hob5 hB5)
              clear hob5 hot5 hB5
              go_wp2_with fail
              go_roundw
              case rel => exact ⟨i + 1, AD, by go_num, by omega, by have := HAL.out; have := Hcl.out; omega, HAB.out, HAD.out, Hfin.out.1, Hfin.out.2⟩
              case measure => simp [intOf] <;> omega
    · have hie : i = ps.length := by omega
      subst hie
      rw [Nat.sub_self, tsF] at hq
      have HF := Lib.hid (show OI w.heap.size wr (.slice (some ⟨w.heap.size, 0, none⟩) ps.length ps.length) (trm p ps ss) by
        rw [← hq]
        have h1 := Hob.out.og
        exact ⟨bd_i64 hp2 Hcb.out, h1⟩)
      clear hq
      go_wp2
      go_ret
      exact ⟨_, rfl, HF.out, HB.out⟩
end Go.Proofs.Ytgkciionmhoofaa
