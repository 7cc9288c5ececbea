/- Dictionaries: what is grown, slid or merged leads back to the text. Plain, no conditions but those each theorem names. -/
import Derived.Test.YtjeakgakpioieaaGtP
import Derived.Test.YtjeakgakpioieaaSldP
import Derived.Test.YtjeakgakpioieaaMrgP
import Derived.Test.YtjeakgakpioieaaGrS
namespace Go.Proofs.Ytjeakgakpioieaa
set_option maxRecDepth 100000
set_option linter.unusedVariables false
set_option linter.unusedSimpArgs false

/- grown pairs -/
theorem gpF_pre (xs : List Int) (ds : List (Int × Int)) (out : List Int) (num : Int) : ∃ t, gpF xs ds out num = out ++ t := by
  induction xs generalizing ds out num with
  | nil => rw [gpF]; split; exact ⟨_, rfl⟩; exact ⟨[], by simp⟩
  | cons x xs ih =>
    rw [gpF]
    cases look ds (num, x) with
    | some k => exact ih _ _ _
    | none =>
      obtain ⟨t, ht⟩ := ih (ds ++ [(num, x)]) (out ++ [num, x]) 0
      exact ⟨[num, x] ++ t, by simp only; rw [ht, List.append_assoc]⟩
theorem gpF_even (xs : List Int) (ds : List (Int × Int)) (out : List Int) (num : Int) : (gpF xs ds out num).length % 2 = out.length % 2 := by
  induction xs generalizing ds out num with
  | nil => rw [gpF]; split <;> simp
  | cons x xs ih =>
    rw [gpF]
    cases look ds (num, x) with
    | some k => exact ih _ _ _
    | none => have := ih (ds ++ [(num, x)]) (out ++ [num, x]) 0; simp only [List.length_append, List.length_cons, List.length_nil] at this; simp only; omega
theorem gpF_le (xs : List Int) (ds : List (Int × Int)) (out : List Int) (num : Int) : (gpF xs ds out num).length ≤ out.length + 2 * xs.length + (if 0 < num then 2 else 0) := by
  induction xs generalizing ds out num with
  | nil => rw [gpF]; split <;> simp
  | cons x xs ih =>
    rw [gpF]
    cases look ds (num, x) with
    | some k =>
      have := ih ds out ((k : Int) + 1)
      simp only [List.length_cons]
      rw [if_pos (by omega)] at this
      split <;> omega
    | none =>
      have := ih (ds ++ [(num, x)]) (out ++ [num, x]) 0
      simp only [List.length_append, List.length_cons, List.length_nil] at this ⊢
      rw [if_neg (by omega)] at this
      split <;> omega
theorem gq_app (out : List Int) (a b : Int) (t : List Int) (k : Nat) (h : out.length = 2 * k) : gq (out ++ [a, b] ++ t) k 0 = a ∧ gq (out ++ [a, b] ++ t) k 1 = b := by
  unfold gq
  constructor
  · rw [List.getD_eq_getElem?_getD, List.append_assoc, List.getElem?_append_right (by omega), show 2 * k + 0 - out.length = 0 by omega]; rfl
  · rw [List.getD_eq_getElem?_getD, List.append_assoc, List.getElem?_append_right (by omega), show 2 * k + 1 - out.length = 1 by omega]; rfl
theorem grow_back (P zs : List Int) (xs : List Int) (hx : ∀ x ∈ xs, x ≠ -1) (ds : List (Int × Int)) (ws : List (List Int)) (hG : Grow ds ws) (out : List Int) (num : Int) (T : List Int) (h0 : 0 ≤ num) (h1 : num ≤ ds.length)
    (ho : out.length = 2 * ds.length) (hP : gpF xs ds out num = P) (hd : gdF P (List.range ds.length) = some (ws, T)) (hT : T ++ wordAt ws num ++ xs = zs) :
    ∃ wf, gdF P (List.range (P.length / 2)) = some (wf, zs) := by
  induction xs generalizing ds ws out num T with
  | nil =>
    rw [List.append_nil] at hT
    rw [gpF] at hP
    by_cases hn : 0 < num
    · rw [if_pos hn] at hP
      have hl : P.length / 2 = ds.length + 1 := by rw [← hP]; simp; omega
      have hq := gq_app out num (-1) [] ds.length ho
      rw [List.append_nil, hP] at hq
      refine ⟨ws ++ [nxt ws num (-1)], ?_⟩
      rw [hl, List.range_succ, gdF_snoc, hd]
      show gdStep P (ws, T) ds.length = _
      rw [gdStep, hq.1, hq.2, if_pos (by simp only [inB, Bool.and_eq_true, decide_eq_true_eq]; have := hG.len; omega)]
      rw [show nxt (ws, T).1 num (-1) = wordAt ws num from if_pos rfl, ← hT]
    · rw [if_neg hn] at hP
      have hz : num = 0 := by omega
      subst hz
      have hw : wordAt ws 0 = [] := by unfold wordAt; rw [show (0 : Int).toNat = 0 from rfl, hG.zero]; rfl
      rw [hw, List.append_nil] at hT
      have hl : P.length / 2 = ds.length := by rw [← hP]; omega
      exact ⟨ws, by rw [hl, hd, hT]⟩
  | cons x xs ih =>
    rw [gpF] at hP
    have hx0 := hx x (by simp)
    have hx' : ∀ y ∈ xs, y ≠ -1 := fun y hy => hx y (List.mem_cons_of_mem _ hy)
    cases hlk : look ds (num, x) with
    | some j =>
      rw [hlk] at hP
      obtain ⟨_, hj⟩ := lookF_some hlk
      rw [Nat.sub_zero] at hj
      have hs := (hG.step j _ hj).2.2
      have hjl := (List.getElem?_eq_some_iff.1 hj).1
      refine ih hx' ds ws hG out ((j : Int) + 1) T (by omega) (by omega) ho hP hd ?_
      have hw : wordAt ws ((j : Int) + 1) = wordAt ws num ++ [x] := by
        unfold wordAt; rw [show ((j : Int) + 1).toNat = j + 1 by omega, hs]; rfl
      rw [hw, ← hT]; simp
    | none =>
      rw [hlk] at hP
      have hP' : gpF xs (ds ++ [(num, x)]) (out ++ [num, x]) 0 = P := hP
      obtain ⟨t, ht⟩ := gpF_pre xs (ds ++ [(num, x)]) (out ++ [num, x]) 0
      rw [hP'] at ht
      have hq := gq_app out num x t ds.length ho
      rw [← ht] at hq
      refine ih hx' (ds ++ [(num, x)]) (ws ++ [wordAt ws num ++ [x]]) (hG.push h0 h1 hlk) (out ++ [num, x]) 0 (T ++ (wordAt ws num ++ [x])) (by omega) (by simp; omega) (by simp; omega) hP' ?_ ?_
      · rw [List.length_append, List.length_singleton, List.range_succ, gdF_snoc, hd]
        show gdStep P (ws, T) ds.length = _
        rw [gdStep, hq.1, hq.2, if_pos (by simp only [inB, Bool.and_eq_true, decide_eq_true_eq]; have := hG.len; omega)]
        rw [show nxt (ws, T).1 num x = wordAt ws num ++ [x] from if_neg hx0]
      · have hw : wordAt (ws ++ [wordAt ws num ++ [x]]) 0 = [] := by
          unfold wordAt
          rw [show (0 : Int).toNat = 0 from rfl, List.getElem?_append_left (by have := hG.len; omega), hG.zero]; rfl
        rw [hw, ← hT]; simp
theorem grown_back {zs : List Int} {n : Int} (h : txt zs n = true) : gtO (gpZ zs n) n = some zs := by
  have hz : gpZ zs n = gpF zs [] [] 0 := by rw [gpZ, if_pos h]
  have hl := txt_len h
  have hb : ∀ x ∈ zs, x ≠ -1 := fun x hx => by
    have h2 := h
    simp only [txt, Bool.and_eq_true] at h2
    have := allIn_mem h2.2 hx; omega
  have hs : sgn n = true := by have h2 := h; simp only [txt, Bool.and_eq_true] at h2; exact h2.1.1
  have hev := gpF_even zs [] [] 0
  have hle := gpF_le zs [] [] 0
  simp at hev hle
  obtain ⟨wf, hw⟩ := grow_back (gpF zs [] [] 0) zs zs hb [] [[]] Grow.nil [] 0 [] (by omega) (by simp) rfl rfl rfl rfl
  rw [hz, gtO, if_pos (by simp [gtOk0, hs]; omega), hw]
  show (if txt zs n = true ∧ eqL (gpF zs [] [] 0) (gpF zs [] [] 0) = true then some zs else none) = some zs
  rw [if_pos ⟨h, eqL_self _⟩]

/- sliding triples -/
theorem mlF_same (zs : List Int) (a b : Nat) (r n : Nat) (h : ∀ i, i < n → gi zs (a + i) = gi zs (a + i - b)) : ∀ i, i < mlF zs a b r n → gi zs (a + i) = gi zs (a + i - b) := by
  induction r generalizing n with
  | zero => exact h
  | succ r ih =>
    rw [mlF]
    by_cases he : gi zs (a + n) = gi zs (a + n - b)
    · rw [if_pos he]
      refine ih (n + 1) fun i hi => ?_
      by_cases hin : i < n
      · exact h i hin
      · rw [show i = n by omega]; exact he
    · rw [if_neg he]; exact h
theorem ml_same (zs : List Int) (a b : Nat) : ∀ i, i < ml zs a b → gi zs (a + i) = gi zs (a + i - b) := mlF_same zs a b _ 0 (fun i hi => by omega)
theorem blF_is (zs : List Int) (a r b back long : Nat) (h : (back = 0 ∧ long = 0) ∨ (1 ≤ back ∧ 0 < long ∧ long = ml zs a back)) (hb : 1 ≤ b) :
    ((blF zs a r b back long).1 = 0 ∧ (blF zs a r b back long).2 = 0) ∨ (1 ≤ (blF zs a r b back long).1 ∧ 0 < (blF zs a r b back long).2 ∧ (blF zs a r b back long).2 = ml zs a (blF zs a r b back long).1) := by
  induction r generalizing b back long with
  | zero => exact h
  | succ r ih =>
    rw [blF]
    by_cases hl : long < ml zs a b
    · rw [if_pos hl]; exact ih _ _ _ (.inr ⟨hb, by omega, rfl⟩) (by omega)
    · rw [if_neg hl]; exact ih _ _ _ h (by omega)
theorem bl_is (zs : List Int) (W a : Nat) : ((bl zs W a).1 = 0 ∧ (bl zs W a).2 = 0) ∨ (1 ≤ (bl zs W a).1 ∧ 0 < (bl zs W a).2 ∧ (bl zs W a).2 = ml zs a (bl zs W a).1) := blF_is zs a _ 1 0 0 (.inl ⟨rfl, rfl⟩) (Nat.le_refl _)
theorem slF_pre (zs : List Int) (W f a : Nat) (out : List Int) : ∃ t, slF zs W f a out = out ++ t := by
  induction f generalizing a out with
  | zero => exact ⟨[], by simp [slF]⟩
  | succ f ih =>
    rw [slF]; split
    · obtain ⟨t, ht⟩ := ih (a + (bl zs W a).2 + 1) (out ++ [((bl zs W a).1 : Int), ((bl zs W a).2 : Int), gi zs (a + (bl zs W a).2)])
      exact ⟨_, by rw [ht, List.append_assoc]⟩
    · exact ⟨[], by simp⟩
theorem take_gi {zs : List Int} {a : Nat} (h : a < zs.length) : zs.take (a + 1) = zs.take a ++ [gi zs a] := by
  rw [List.take_succ_eq_append_getElem h, gi_eq h]
theorem cpy_take (zs : List Int) (a b : Nat) (hb : 1 ≤ b) (hba : b ≤ a) (l n : Nat) (hl : a + n + l ≤ zs.length) (h : ∀ i, i < n + l → gi zs (a + i) = gi zs (a + i - b)) : cpy l b (zs.take (a + n)) = zs.take (a + n + l) := by
  induction l generalizing n with
  | zero => rfl
  | succ l ih =>
    rw [cpy]
    have h1 : (zs.take (a + n)).getD ((zs.take (a + n)).length - b) 0 = gi zs (a + n - b) := by
      rw [List.length_take, Nat.min_eq_left (by omega), List.getD_eq_getElem?_getD, List.getElem?_take, if_pos (by omega)]; rfl
    rw [h1, ← h n (by omega), ← take_gi (by omega)]
    have := ih (n + 1) (by omega) (fun i hi => h i (by omega))
    rw [show a + (n + 1) = a + n + 1 by omega] at this
    rw [this, show a + n + 1 + l = a + n + (l + 1) by omega]
theorem tr_app (out : List Int) (a b c : Int) (t : List Int) (k : Nat) (h : out.length = 3 * k) : tr (out ++ [a, b, c] ++ t) k 0 = a ∧ tr (out ++ [a, b, c] ++ t) k 1 = b ∧ tr (out ++ [a, b, c] ++ t) k 2 = c := by
  unfold tr
  refine ⟨?_, ?_, ?_⟩
  · rw [List.getD_eq_getElem?_getD, List.append_assoc, List.getElem?_append_right (by omega), show 3 * k + 0 - out.length = 0 by omega]; rfl
  · rw [List.getD_eq_getElem?_getD, List.append_assoc, List.getElem?_append_right (by omega), show 3 * k + 1 - out.length = 1 by omega]; rfl
  · rw [List.getD_eq_getElem?_getD, List.append_assoc, List.getElem?_append_right (by omega), show 3 * k + 2 - out.length = 2 by omega]; rfl
theorem slide_back (zs : List Int) (h64 : zs.length ≤ 64) (W : Nat) (T : List Int) (f a k : Nat) (out : List Int) (hf : zs.length - a ≤ f) (ha : a ≤ zs.length) (ho : out.length = 3 * k) (hT : slF zs W f a out = T)
    (hd : sdF T (List.range k) = some (zs.take a)) : T.length % 3 = 0 ∧ sdF T (List.range (T.length / 3)) = some zs := by
  induction f generalizing a k out with
  | zero =>
    rw [slF] at hT
    subst hT
    rw [show out.length / 3 = k by omega, hd, List.take_of_length_le (by omega)]
    exact ⟨by omega, rfl⟩
  | succ f ih =>
    rw [slF] at hT
    by_cases hlt : a < zs.length
    · rw [if_pos hlt] at hT
      obtain ⟨t, ht⟩ := slF_pre zs W f (a + (bl zs W a).2 + 1) (out ++ [((bl zs W a).1 : Int), ((bl zs W a).2 : Int), gi zs (a + (bl zs W a).2)])
      rw [hT] at ht
      have hq := tr_app out (bl zs W a).1 (bl zs W a).2 (gi zs (a + (bl zs W a).2)) t k ho
      rw [← ht] at hq
      have hbl := bl_le zs W a
      have hbi := bl_is zs W a
      have hc : cpy (bl zs W a).2 (bl zs W a).1 (zs.take a) = zs.take (a + (bl zs W a).2) := by
        rcases hbi with ⟨h1, h2⟩ | ⟨h1, h2, h3⟩
        · rw [h2]; rfl
        · have := cpy_take zs a (bl zs W a).1 h1 hbl.2 (bl zs W a).2 0 (by omega) (fun i hi => ml_same zs a _ i (by omega))
          simpa using this
      refine ih (a + (bl zs W a).2 + 1) (k + 1) _ (by omega) (by omega) (by simp; omega) hT ?_
      rw [List.range_succ, sdF_snoc, hd]
      show sdStep T (zs.take a) k = _
      have hlen : (zs.take a).length = a := by rw [List.length_take]; omega
      have hok : okT (zs.take a) (tr T k 0) (tr T k 1) = true := by
        rw [hq.1, hq.2.1]
        unfold okT
        rw [hlen]
        simp only [inB, Bool.and_eq_true, decide_eq_true_eq]
        refine ⟨by omega, ?_⟩
        rcases hbi with ⟨h1, h2⟩ | ⟨h1, h2, h3⟩
        · simp [h1, h2]
        · rw [if_neg (by omega)]; simp only [Bool.and_eq_true, decide_eq_true_eq]; omega
      unfold sdStep
      rw [if_pos hok, hq.1, hq.2.1, hq.2.2, Int.toNat_natCast, Int.toNat_natCast, hc, ← take_gi (by omega), if_pos (by rw [List.length_take]; omega)]
    · rw [if_neg hlt] at hT
      subst hT
      rw [show out.length / 3 = k by omega, hd, List.take_of_length_le (by omega)]
      exact ⟨by omega, rfl⟩
theorem slid_back {zs : List Int} {n win : Int} (h : txt zs n = true) (hw : inB win 1 64 = true) : sdO (slZ zs n win) n = some zs := by
  have hz : slZ zs n win = slF zs win.toNat zs.length 0 [] := by rw [slZ, if_pos (by simp [slOk, h, hw])]
  have hl := txt_len h
  have hs : sgn n = true := by have h2 := h; simp only [txt, Bool.and_eq_true] at h2; exact h2.1.1
  obtain ⟨h3, hd⟩ := slide_back zs hl win.toNat (slF zs win.toNat zs.length 0 []) zs.length 0 0 [] (by omega) (by omega) rfl rfl rfl
  rw [hz, sdO, if_pos (by simp [sdOk0, hs, h3]), hd]
  show (if txt zs n = true then some zs else none) = some zs
  rw [if_pos h]

/- merged letters -/
theorem exp1_mg (a b L : Int) : ∀ zs : List Int, L ∉ zs → exp1 L a b (mg a b L zs) = zs
  | [], _ => rfl
  | [x], h => by
    rw [mg, exp1, if_neg (fun e => h (by simp [e]))]; rfl
  | x :: y :: zs, h => by
    rw [mg]
    by_cases hc : x = a ∧ y = b
    · rw [if_pos hc, exp1, if_pos rfl, exp1_mg a b L zs (fun hm => h (by simp [hm])), hc.1, hc.2]
    · rw [if_neg hc, exp1, if_neg (fun e => h (by simp [e])), exp1_mg a b L (y :: zs) (fun hm => h (List.mem_cons_of_mem _ hm))]
def Rul (n : Int) (rs : List Int) (k : Nat) : Prop := ∀ j, j < k → (0 ≤ gi rs (2 * j) ∧ gi rs (2 * j) ≤ n + j - 1) ∧ 0 ≤ gi rs (2 * j + 1) ∧ gi rs (2 * j + 1) ≤ n + j - 1
theorem gi_app_left (rs t : List Int) (i : Nat) (h : i < rs.length) : gi (rs ++ t) i = gi rs i := by unfold gi; rw [List.getElem?_append_left h]
theorem mg_back (n : Nat) (hn : 1 ≤ n) (r i : Nat) (zs rs : List Int) (hin : In0 ((n : Int) + i) zs) (hl : rs.length = 2 * i) (hr : Rul n rs i) :
    ∃ k t, (mgF n r i zs rs).2 = rs ++ t ∧ (mgF n r i zs rs).2.length = 2 * k ∧ i ≤ k ∧ k ≤ i + r ∧ In0 ((n : Int) + k) (mgF n r i zs rs).1 ∧ Rul n (mgF n r i zs rs).2 k ∧ umF n (mgF n r i zs rs).2 k (mgF n r i zs rs).1 = umF n (mgF n r i zs rs).2 i zs := by
  induction r generalizing i zs rs with
  | zero => exact ⟨i, [], by simp [mgF], hl, Nat.le_refl _, Nat.le_refl _, hin, hr, rfl⟩
  | succ r ih =>
    rw [mgF]
    by_cases hm : (mx zs (n + i)).most = 1
    · rw [if_pos hm]
      exact ⟨i, [], by simp, hl, Nat.le_refl _, by omega, hin, hr, rfl⟩
    · rw [if_neg hm]
      have hb := mxa_bd zs (n + i) (n + i) 0 ⟨1, 0, 0⟩ (by omega) ⟨by show 0 < n + i; omega, by show 0 < n + i; omega, Nat.le_refl _, by simp⟩
      rw [show mxa zs (n + i) (n + i) 0 ⟨1, 0, 0⟩ = mx zs (n + i) from rfl] at hb
      generalize hM : mx zs (n + i) = M at *
      have hin2 : In0 ((n : Int) + ((i + 1 : Nat) : Int)) (mg M.a M.b ((n + i : Nat) : Int) zs) :=
        mg_in _ _ _ (by omega) (fun z hz => by have := hin z hz; omega)
      have hl2 : (rs ++ [(M.a : Int), (M.b : Int)]).length = 2 * (i + 1) := by simp; omega
      have ga : gi (rs ++ [(M.a : Int), (M.b : Int)]) (2 * i) = M.a := by
        unfold gi; rw [List.getElem?_append_right (by omega), show 2 * i - rs.length = 0 by omega]; rfl
      have gb : gi (rs ++ [(M.a : Int), (M.b : Int)]) (2 * i + 1) = M.b := by
        unfold gi; rw [List.getElem?_append_right (by omega), show 2 * i + 1 - rs.length = 1 by omega]; rfl
      have hr2 : Rul n (rs ++ [(M.a : Int), (M.b : Int)]) (i + 1) := by
        intro j hj
        by_cases hji : j < i
        · rw [gi_app_left _ _ _ (by omega), gi_app_left _ _ _ (by omega)]; exact hr j hji
        · obtain rfl : j = i := by omega
          rw [ga, gb]; omega
      obtain ⟨k, t, h1, h2, h3, h4, h5, h6, h7⟩ := ih (i + 1) (mg M.a M.b ((n + i : Nat) : Int) zs) (rs ++ [(M.a : Int), (M.b : Int)]) hin2 hl2 hr2
      refine ⟨k, [(M.a : Int), (M.b : Int)] ++ t, by rw [h1, List.append_assoc], h2, by omega, by omega, h5, h6, ?_⟩
      have e1 : gi (rs ++ [(M.a : Int), (M.b : Int)] ++ t) (2 * i) = M.a := by rw [gi_app_left _ _ _ (by omega), ga]
      have e2 : gi (rs ++ [(M.a : Int), (M.b : Int)] ++ t) (2 * i + 1) = M.b := by rw [gi_app_left _ _ _ (by omega), gb]
      rw [h7, umF, h1, e1, e2]
      congr 1
      rw [show ((n : Int) + (i : Int)) = ((n + i : Nat) : Int) by omega]
      exact exp1_mg _ _ _ zs (fun hm => by have := hin _ hm; omega)
theorem ruF_of {n : Int} {rs : List Int} (r i : Nat) (h : Rul n rs (i + r)) : ruF n rs r i = true := by
  induction r generalizing i with
  | zero => rfl
  | succ r ih =>
    have := h i (by omega)
    rw [ruF, ih (i + 1) (by rw [show i + 1 + r = i + (r + 1) by omega]; exact h)]
    simp only [inB, Bool.and_eq_true, decide_eq_true_eq, Bool.and_true]
    omega
theorem merged_back {zs : List Int} {n t : Int} (h : meOk zs n t = true) : umOk (meZ zs n t) (meR zs n t) n = true ∧ umZ (meZ zs n t) (meR zs n t) n = zs ∧ (meZ zs n t).length ≤ zs.length := by
  have h2 := h
  simp only [meOk, Bool.and_eq_true] at h2
  have h3 := h2.1
  have ht := inB_eq h2.2
  simp only [if_true] at ht
  simp only [txt, Bool.and_eq_true, decide_eq_true_eq] at h3
  have hs := inB_eq h3.1.1
  simp only [if_true] at hs
  have hs0 : sgn n = true := h3.1.1
  obtain ⟨N, rfl⟩ := Int.eq_ofNat_of_zero_le (show 0 ≤ n by omega)
  obtain ⟨tt, rfl⟩ := Int.eq_ofNat_of_zero_le ht.1
  have hZ : meZ zs N tt = (mgF N tt 0 zs []).1 := by rw [meZ, if_pos h]; rfl
  have hR : meR zs N tt = (mgF N tt 0 zs []).2 := by rw [meR, if_pos h]; rfl
  have hin : In0 ((N : Int) + ((0 : Nat) : Int)) zs := fun z hz => by have := allIn_mem h3.2 hz; omega
  obtain ⟨k, t', k1, k2, k3, k4, k5, k6, k7⟩ := mg_back N (by omega) tt 0 zs [] hin rfl (fun j hj => by omega)
  have hlen := mgF_len N tt 0 zs []
  have hk : (mgF N tt 0 zs []).2.length / 2 = k := by omega
  have hu : umF N (mgF N tt 0 zs []).2 k (mgF N tt 0 zs []).1 = zs := by rw [k7]; rfl
  have hOk : umOk (meZ zs N tt) (meR zs N tt) N = true := by
    rw [hZ, hR, umOk, umIn, hk, hu, hs0]
    simp only [Bool.true_and, Bool.and_eq_true, decide_eq_true_eq, beq_iff_eq]
    refine ⟨⟨⟨⟨⟨by omega, by omega⟩, by omega⟩, ?_⟩, ruF_of k 0 (by rw [Nat.zero_add]; exact k6)⟩, by omega⟩
    rw [allIn_iff]
    intro z hz
    have := k5 z hz; omega
  refine ⟨hOk, ?_, by rw [hZ]; omega⟩
  rw [umZ, if_pos hOk, hZ, hR, hk, hu]
end Go.Proofs.Ytjeakgakpioieaa
