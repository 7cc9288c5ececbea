/- Merging letters: how often a pair is there, and the text in which it is exchanged. Conditions: texts of at most 64 letters. -/
import Derived.Test.YtjeakgakpioieaaMrgP
import Derived.Test.YtjeakgakpioieaaClone
import Derived.Maps.AppendAt
namespace Go.Proofs.Ytjeakgakpioieaa
open Go.RowKit
set_option maxRecDepth 100000
set_option linter.unusedVariables false
set_option linter.unusedSimpArgs false

/-- An append to a slice of one's own, and where the new one lies. -/
theorem app_at {W w0 : World} {ops : Array Oper} {rest : List Oper} {o : Oper} {a : Act} {Q : Exit → Act → World → Prop} (hgd : o.guard = none) (s x : Operand)
    (ho : o.op = .call { callee := .builtin .append, args := #[s, x], argTypes := #[25, 25] })
    (B B0 : Nat) (hB0 : B0 ≤ B) (v : Value) (zs : List Int) (hs : a.eval s = v) (hown : OwnI B W v zs) (hB : Below B0 w0 W)
    (c : Array Value) (Tc : TypeId) (news : List Int) (hx : a.eval x = .slice (some ⟨W.heap.size, 0, none⟩) news.length news.length) (hc : c = (news.map (Value.int .i64)).toArray)
    (hl : zs.length + news.length ≤ 1099511627776) (hbs : B ≤ W.heap.size)
    (h : ∀ v' w', OwnI B w' v' (zs ++ news) → Below B0 w0 w' → (W.alloc (.cells c Tc)).grownBy w' v.ownBlock → (v'.ownBlock = v.ownBlock ∨ v'.ownBlock = some (W.heap.size + 1)) → wpList Try.prog ops Q rest (a.put o.dst v') w') :
    wpList Try.prog ops Q (o :: rest) a (W.alloc (.cells c Tc)) := by
  obtain ⟨i0, hi, hz0, hz1, hz2⟩ := info_parts info_int
  subst hc
  refine wpList_append_own_at _ hgd s x 25 ho B 2 i0 (.int .i64 0) 1 8 Try.underlying25 hi hz0 hz1 hz2 rfl (by decide) v zs.length (zs.map (Value.int .i64)) hs (hown.alloc _) ⟨W.heap.size, 0, none⟩ news.length news.length (news.map (Value.int .i64)) hx (by simp) ?_ (ints_oneCell _ _) (by unfold maxLen; omega) (by omega) (by simp; omega) ?_
  · intro j u hu
    have hh : (W.alloc (.cells (news.map (Value.int .i64)).toArray Tc)).heap[W.heap.size]? = some (.cells (news.map (Value.int .i64)).toArray Tc (0, 0)) := heap_alloc_new W _
    rw [Addr.add_lit, cell_of_row _ _ _ _ _ _ hh]
    simpa using hu
  · intro v' w' h1 h2 _ h4
    refine h v' w' (by unfold OwnI; simpa using h1) ((hB.alloc (by omega) _).grown h2 (by simp; omega) fun k hk => ?_) h2 (by rwa [World.size_alloc] at h4)
    exact Nat.le_trans hB0 (hown.lt k hk).1
theorem mg_i64 {a b L : Int} (hL : I64 L) : ∀ {zs : List Int}, AllI64 zs → AllI64 (mg a b L zs)
  | [], h => h
  | [x], h => h
  | x :: y :: zs, h => by
    rw [mg]; split
    · have := mg_i64 (a := a) (b := b) hL (zs := zs) fun z hz => h z (by simp [hz])
      intro z hz; rcases List.mem_cons.1 hz with rfl | hz
      · exact hL
      · exact this z hz
    · have := mg_i64 (a := a) (b := b) hL (zs := y :: zs) fun z hz => h z (by simp at hz ⊢; rcases hz with rfl | hz <;> simp [*])
      intro z hz; rcases List.mem_cons.1 hz with rfl | hz
      · exact h z (by simp)
      · exact this z hz
theorem mg_yes {a b L : Int} {zs : List Int} {i : Nat} (h : i + 1 < zs.length) (h1 : zs[i] = a) (h2 : zs[i + 1] = b) : mg a b L (zs.drop i) = L :: mg a b L (zs.drop (i + 2)) ∧ ct a b (zs.drop i) = ct a b (zs.drop (i + 2)) + 1 := by
  rw [List.drop_eq_getElem_cons (show i < zs.length by omega), List.drop_eq_getElem_cons h, mg, ct, if_pos ⟨h1, h2⟩, if_pos ⟨h1, h2⟩]
  exact ⟨rfl, rfl⟩
theorem mg_no {a b L : Int} {zs : List Int} {i : Nat} (h : i < zs.length) (h1 : ∀ h' : i + 1 < zs.length, ¬ (zs[i] = a ∧ zs[i + 1] = b)) : mg a b L (zs.drop i) = zs[i] :: mg a b L (zs.drop (i + 1)) ∧ ct a b (zs.drop i) = ct a b (zs.drop (i + 1)) := by
  rw [List.drop_eq_getElem_cons h]
  by_cases h2 : i + 1 < zs.length
  · rw [List.drop_eq_getElem_cons h2, mg, ct, if_neg (h1 h2), if_neg (h1 h2)]
    exact ⟨rfl, rfl⟩
  · rw [List.drop_of_length_le (show zs.length ≤ i + 1 by omega)]
    exact ⟨rfl, rfl⟩
theorem ct_end {a b : Int} {zs : List Int} {i : Nat} (h : zs.length ≤ i + 1) : ct a b (zs.drop i) = 0 := by
  rcases Nat.lt_or_ge i zs.length with h1 | h1
  · rw [List.drop_eq_getElem_cons h1, List.drop_of_length_le h]; rfl
  · rw [List.drop_of_length_le h1]; rfl
set_option maxHeartbeats 4000000 in
theorem swap_any (v : Value) (zs : List Int) (a b L : Int) (hL : I64 L) (w : World) (h : RI w v zs) (hl : zs.length ≤ 64) :
    Calls Try.prog 31 #[v, .int .i64 a, .int .i64 b, .int .i64 L] w fun e w' => ∃ v', e = .returned (.tuple #[v', .int .i64 (ct a b zs)]) ∧ OI w.heap.size w' v' (mg a b L zs) ∧ Below w.heap.size w w' := by
  obtain ⟨ao, cap, rfl⟩ := h.shape
  have hi64 := h.1
  have G := Lib.hid h
  have Hi64 := Lib.hid hi64
  clear h hi64
  go_enter Try.func31, Try.ntmps31
  go_wp2_with fail
  go_loopw [10, 11, 12] (fun o tv av wr => ∃ (i : Nat) (out : List Int) (t : Nat), av = .int .i64 i ∧ i ≤ zs.length ∧ tv = .int .i64 t ∧ t ≤ i ∧ t + ct a b (zs.drop i) = ct a b zs ∧ OwnI w.heap.size wr o out ∧ AllI64 out ∧ out ++ mg a b L (zs.drop i) = mg a b L zs ∧ Below w.heap.size w wr) (fun _ _ av _ => zs.length - (intOf av).toNat)
  case atStart => exact ⟨0, [], 0, rfl, Nat.zero_le _, rfl, Nat.zero_le _, by rw [List.drop_zero]; simp, own_empty w _ (Nat.le_refl _), (fun z hz => by cases hz), by rw [List.drop_zero]; rfl, by go_grown⟩
  case round =>
    obtain ⟨i, out, t, rfl, hi, rfl, ht, hct, hown, hout, hq, hB⟩ := hrel
    obtain ⟨ao1, cap1, rfl⟩ := hown.shape
    have hs1 := hB.size
    have hol : out.length ≤ 64 := by
      have h1 := mg_len a b L zs
      have h2 := congrArg List.length hq
      rw [List.length_append] at h2; omega
    by_cases hil : i < zs.length
    · obtain ⟨b0, o0, e0, -, hcc⟩ := (G.out.below hB).2.cells (by omega)
      obtain rfl := e0
      have c0 := hcc i hil
      by_cases hil2 : i + 1 < zs.length
      · have c1 := hcc (i + 1) hil2
        by_cases hx : zs[i] = a
        · by_cases hy : zs[i + 1] = b
          · have hm := mg_yes (L := L) hil2 hx hy
            have Hq := Lib.hid (show (out ++ [L]) ++ mg a b L (zs.drop (i + 2)) = mg a b L zs by rw [← hq, hm.1]; simp)
            have Hct := Lib.hid (show t + 1 + ct a b (zs.drop (i + 2)) = ct a b zs by rw [← hct, hm.2]; omega)
            have hxb : (zs[i] == a) = true := by simpa using hx
            have hyb : (zs[i + 1] == b) = true := by simpa using hy
            have i1l : (i : Int) + 1 < (zs.length : Int) := by omega
            have hw1 : IntKind.i64.wrap ((i : Int) + 1) = (i : Int) + 1 := IntWalk.i64_in _ (by omega)
            have hn1 : ((i : Int) + 1).toNat = i + 1 := by omega
            clear hcc hm hq hx hy hct
            generalize zs[i] = x at *
            generalize zs[i + 1] = y at *
            go_wp2_with (at_builtin; go_must (refine app_ints rfl _ _ rfl w.heap.size w.heap.size (Nat.le_refl _) (.slice ao1 out.length cap1) out rfl hown hB _ _ [L] rfl rfl (by simp only [List.length_cons, List.length_nil]; omega) hs1 ?_))
            intro v' w' hown' hB' hg'
            have hout' : AllI64 (out ++ [L]) := fun z hz => (List.mem_append.1 hz).elim (hout z) (fun e => by rw [List.mem_singleton.1 e]; exact hL)
            obtain ⟨ao2, cap2, rfl⟩ := hown'.shape
            clear hg' hown hB
            go_wp2
            go_roundw
            case rel => exact ⟨i + 2, _, t + 1, by go_num, by omega, by go_num, by omega, Hct.out, hown', hout', Hq.out, hB'⟩
            case measure => simp [intOf] <;> omega
          · have hxb : (zs[i] == a) = true := by simpa using hx
            have hyb : (zs[i + 1] == b) = false := by simpa using hy
            have i1l : (i : Int) + 1 < (zs.length : Int) := by omega
            have hm := mg_no (a := a) (b := b) (L := L) hil (fun _ e => hy e.2)
            have Hq := Lib.hid (show (out ++ [zs[i]]) ++ mg a b L (zs.drop (i + 1)) = mg a b L zs by rw [← hq, hm.1]; simp)
            have Hct := Lib.hid (show t + ct a b (zs.drop (i + 1)) = ct a b zs by rw [← hct, hm.2])
            have hxi := Hi64.out zs[i] (List.getElem_mem hil)
            generalize zs[i + 1] = y at *
            clear hcc hm hq hx hy hct
            generalize zs[i] = x at *
            go_wp2_with (at_builtin; go_must (refine app_ints rfl _ _ rfl w.heap.size w.heap.size (Nat.le_refl _) (.slice ao1 out.length cap1) out rfl hown hB _ _ [x] rfl rfl (by simp only [List.length_cons, List.length_nil]; omega) hs1 ?_))
            intro v' w' hown' hB' hg'
            have hout' : AllI64 (out ++ [x]) := fun z hz => (List.mem_append.1 hz).elim (hout z) (fun e => by rw [List.mem_singleton.1 e]; exact hxi)
            obtain ⟨ao2, cap2, rfl⟩ := hown'.shape
            clear hg' hown hB
            go_wp2
            go_roundw
            case rel => exact ⟨i + 1, _, t, by go_num, by omega, rfl, by omega, Hct.out, hown', hout', Hq.out, hB'⟩
            case measure => simp [intOf] <;> omega
        · have hxb : (zs[i] == a) = false := by simpa using hx
          have i1l : (i : Int) + 1 < (zs.length : Int) := by omega
          have hm := mg_no (a := a) (b := b) (L := L) hil (fun _ e => hx e.1)
          have Hq := Lib.hid (show (out ++ [zs[i]]) ++ mg a b L (zs.drop (i + 1)) = mg a b L zs by rw [← hq, hm.1]; simp)
          have Hct := Lib.hid (show t + ct a b (zs.drop (i + 1)) = ct a b zs by rw [← hct, hm.2])
          have hxi := Hi64.out zs[i] (List.getElem_mem hil)
          clear hcc hm hq hx c1 hct
          generalize zs[i] = x at *
          go_wp2_with (at_builtin; go_must (refine app_ints rfl _ _ rfl w.heap.size w.heap.size (Nat.le_refl _) (.slice ao1 out.length cap1) out rfl hown hB _ _ [x] rfl rfl (by simp only [List.length_cons, List.length_nil]; omega) hs1 ?_))
          intro v' w' hown' hB' hg'
          have hout' : AllI64 (out ++ [x]) := fun z hz => (List.mem_append.1 hz).elim (hout z) (fun e => by rw [List.mem_singleton.1 e]; exact hxi)
          obtain ⟨ao2, cap2, rfl⟩ := hown'.shape
          clear hg' hown hB
          go_wp2
          go_roundw
          case rel => exact ⟨i + 1, _, t, by go_num, by omega, rfl, by omega, Hct.out, hown', hout', Hq.out, hB'⟩
          case measure => simp [intOf] <;> omega
      · have i1l : ¬ (i : Int) + 1 < (zs.length : Int) := by omega
        have i1d : decide ((i : Int) + 1 < (zs.length : Int)) = false := decide_eq_false i1l
        have hm := mg_no (a := a) (b := b) (L := L) hil (fun h2 _ => hil2 h2)
        have Hq := Lib.hid (show (out ++ [zs[i]]) ++ mg a b L (zs.drop (i + 1)) = mg a b L zs by rw [← hq, hm.1]; simp)
        have Hct := Lib.hid (show t + ct a b (zs.drop (i + 1)) = ct a b zs by rw [← hct, hm.2])
        have hxi := Hi64.out zs[i] (List.getElem_mem hil)
        clear hcc hm hq hct
        generalize zs[i] = x at *
        go_wp2_with (at_builtin; go_must (refine app_ints rfl _ _ rfl w.heap.size w.heap.size (Nat.le_refl _) (.slice ao1 out.length cap1) out rfl hown hB _ _ [x] rfl rfl (by simp only [List.length_cons, List.length_nil]; omega) hs1 ?_))
        intro v' w' hown' hB' hg'
        have hout' : AllI64 (out ++ [x]) := fun z hz => (List.mem_append.1 hz).elim (hout z) (fun e => by rw [List.mem_singleton.1 e]; exact hxi)
        obtain ⟨ao2, cap2, rfl⟩ := hown'.shape
        clear hg' hown hB
        go_wp2
        go_roundw
        case rel => exact ⟨i + 1, _, t, by go_num, by omega, rfl, by omega, Hct.out, hown', hout', Hq.out, hB'⟩
        case measure => simp [intOf] <;> omega
    · have hfin : mg a b L zs = out := by rw [← hq, List.drop_of_length_le (by omega)]; simp [mg]
      have hfc : ct a b zs = t := by rw [← hct, List.drop_of_length_le (by omega)]; rfl
      have ho : OI w.heap.size wr (.slice ao1 out.length cap1) (mg a b L zs) := by rw [hfin]; exact hown.oi hout
      have Ho := Lib.hid ho
      have Hfc := Lib.hid hfc
      clear hfc
      clear ho hfin hown hq
      go_wp2
      go_ret2
      exact ⟨_, ret2 rfl (vi (by rw [Hfc.out])), Ho.out, hB⟩
set_option maxHeartbeats 4000000 in
theorem l05Merge_any (v : Value) (zs : List Int) (a b L : Int) (hL : I64 L) (w : World) (h : RI w v zs) (hl : zs.length ≤ 64) :
    Calls Try.prog 33 #[v, .int .i64 a, .int .i64 b, .int .i64 L] w fun e w' => ∃ v', e = .returned (v') ∧ OI w.heap.size w' v' (mg a b L zs) ∧ Below w.heap.size w w' := by
  obtain ⟨ao, cap, rfl⟩ := h.shape
  have hi64 := h.1
  have G := Lib.hid h
  have Hi64 := Lib.hid hi64
  clear h hi64
  go_enter Try.func33, Try.ntmps33
  go_wp2_with fail
  go_loopw [9, 10] (fun o av wr => ∃ (i : Nat) (out : List Int), av = .int .i64 i ∧ i ≤ zs.length ∧ OwnI w.heap.size wr o out ∧ AllI64 out ∧ out ++ mg a b L (zs.drop i) = mg a b L zs ∧ Below w.heap.size w wr) (fun _ av _ => zs.length - (intOf av).toNat)
  case atStart => exact ⟨0, [], rfl, Nat.zero_le _, own_empty w _ (Nat.le_refl _), (fun z hz => by cases hz), by rw [List.drop_zero]; rfl, by go_grown⟩
  case round =>
    obtain ⟨i, out, rfl, hi, hown, hout, hq, hB⟩ := hrel
    obtain ⟨ao1, cap1, rfl⟩ := hown.shape
    have hs1 := hB.size
    have hol : out.length ≤ 64 := by
      have h1 := mg_len a b L zs
      have h2 := congrArg List.length hq
      rw [List.length_append] at h2; omega
    by_cases hil : i < zs.length
    · obtain ⟨b0, o0, e0, -, hcc⟩ := (G.out.below hB).2.cells (by omega)
      obtain rfl := e0
      have c0 := hcc i hil
      by_cases hil2 : i + 1 < zs.length
      · have c1 := hcc (i + 1) hil2
        by_cases hx : zs[i] = a
        · by_cases hy : zs[i + 1] = b
          · have hm := mg_yes (L := L) hil2 hx hy
            have Hq := Lib.hid (show (out ++ [L]) ++ mg a b L (zs.drop (i + 2)) = mg a b L zs by rw [← hq, hm.1]; simp)
            have hxb : (zs[i] == a) = true := by simpa using hx
            have hyb : (zs[i + 1] == b) = true := by simpa using hy
            have i1l : (i : Int) + 1 < (zs.length : Int) := by omega
            have hw1 : IntKind.i64.wrap ((i : Int) + 1) = (i : Int) + 1 := IntWalk.i64_in _ (by omega)
            have hn1 : ((i : Int) + 1).toNat = i + 1 := by omega
            clear hcc hm hq hx hy
            generalize zs[i] = x at *
            generalize zs[i + 1] = y at *
            go_wp2_with (at_builtin; go_must (refine app_ints rfl _ _ rfl w.heap.size w.heap.size (Nat.le_refl _) (.slice ao1 out.length cap1) out rfl hown hB _ _ [L] rfl rfl (by simp only [List.length_cons, List.length_nil]; omega) hs1 ?_))
            intro v' w' hown' hB' hg'
            have hout' : AllI64 (out ++ [L]) := fun z hz => (List.mem_append.1 hz).elim (hout z) (fun e => by rw [List.mem_singleton.1 e]; exact hL)
            obtain ⟨ao2, cap2, rfl⟩ := hown'.shape
            clear hg' hown hB
            go_wp2
            go_roundw
            case rel => exact ⟨i + 2, _, by go_num, by omega, hown', hout', Hq.out, hB'⟩
            case measure => simp [intOf] <;> omega
          · have hxb : (zs[i] == a) = true := by simpa using hx
            have hyb : (zs[i + 1] == b) = false := by simpa using hy
            have i1l : (i : Int) + 1 < (zs.length : Int) := by omega
            have hm := mg_no (a := a) (b := b) (L := L) hil (fun _ e => hy e.2)
            have Hq := Lib.hid (show (out ++ [zs[i]]) ++ mg a b L (zs.drop (i + 1)) = mg a b L zs by rw [← hq, hm.1]; simp)
            have hxi := Hi64.out zs[i] (List.getElem_mem hil)
            generalize zs[i + 1] = y at *
            clear hcc hm hq hx hy
            generalize zs[i] = x at *
            go_wp2_with (at_builtin; go_must (refine app_ints rfl _ _ rfl w.heap.size w.heap.size (Nat.le_refl _) (.slice ao1 out.length cap1) out rfl hown hB _ _ [x] rfl rfl (by simp only [List.length_cons, List.length_nil]; omega) hs1 ?_))
            intro v' w' hown' hB' hg'
            have hout' : AllI64 (out ++ [x]) := fun z hz => (List.mem_append.1 hz).elim (hout z) (fun e => by rw [List.mem_singleton.1 e]; exact hxi)
            obtain ⟨ao2, cap2, rfl⟩ := hown'.shape
            clear hg' hown hB
            go_wp2
            go_roundw
            case rel => exact ⟨i + 1, _, by go_num, by omega, hown', hout', Hq.out, hB'⟩
            case measure => simp [intOf] <;> omega
        · have hxb : (zs[i] == a) = false := by simpa using hx
          have i1l : (i : Int) + 1 < (zs.length : Int) := by omega
          have hm := mg_no (a := a) (b := b) (L := L) hil (fun _ e => hx e.1)
          have Hq := Lib.hid (show (out ++ [zs[i]]) ++ mg a b L (zs.drop (i + 1)) = mg a b L zs by rw [← hq, hm.1]; simp)
          have hxi := Hi64.out zs[i] (List.getElem_mem hil)
          clear hcc hm hq hx c1
          generalize zs[i] = x at *
          go_wp2_with (at_builtin; go_must (refine app_ints rfl _ _ rfl w.heap.size w.heap.size (Nat.le_refl _) (.slice ao1 out.length cap1) out rfl hown hB _ _ [x] rfl rfl (by simp only [List.length_cons, List.length_nil]; omega) hs1 ?_))
          intro v' w' hown' hB' hg'
          have hout' : AllI64 (out ++ [x]) := fun z hz => (List.mem_append.1 hz).elim (hout z) (fun e => by rw [List.mem_singleton.1 e]; exact hxi)
          obtain ⟨ao2, cap2, rfl⟩ := hown'.shape
          clear hg' hown hB
          go_wp2
          go_roundw
          case rel => exact ⟨i + 1, _, by go_num, by omega, hown', hout', Hq.out, hB'⟩
          case measure => simp [intOf] <;> omega
      · have i1l : ¬ (i : Int) + 1 < (zs.length : Int) := by omega
        have i1d : decide ((i : Int) + 1 < (zs.length : Int)) = false := decide_eq_false i1l
        have hm := mg_no (a := a) (b := b) (L := L) hil (fun h2 _ => hil2 h2)
        have Hq := Lib.hid (show (out ++ [zs[i]]) ++ mg a b L (zs.drop (i + 1)) = mg a b L zs by rw [← hq, hm.1]; simp)
        have hxi := Hi64.out zs[i] (List.getElem_mem hil)
        clear hcc hm hq
        generalize zs[i] = x at *
        go_wp2_with (at_builtin; go_must (refine app_ints rfl _ _ rfl w.heap.size w.heap.size (Nat.le_refl _) (.slice ao1 out.length cap1) out rfl hown hB _ _ [x] rfl rfl (by simp only [List.length_cons, List.length_nil]; omega) hs1 ?_))
        intro v' w' hown' hB' hg'
        have hout' : AllI64 (out ++ [x]) := fun z hz => (List.mem_append.1 hz).elim (hout z) (fun e => by rw [List.mem_singleton.1 e]; exact hxi)
        obtain ⟨ao2, cap2, rfl⟩ := hown'.shape
        clear hg' hown hB
        go_wp2
        go_roundw
        case rel => exact ⟨i + 1, _, by go_num, by omega, hown', hout', Hq.out, hB'⟩
        case measure => simp [intOf] <;> omega
    · have hfin : mg a b L zs = out := by rw [← hq, List.drop_of_length_le (by omega)]; simp [mg]
      have ho : OI w.heap.size wr (.slice ao1 out.length cap1) (mg a b L zs) := by rw [hfin]; exact hown.oi hout
      have Ho := Lib.hid ho
      clear ho hfin hown hq
      go_wp2
      go_ret
      exact ⟨_, rfl, Ho.out, hB⟩
set_option maxHeartbeats 4000000 in
theorem l05Pair_any (v : Value) (zs : List Int) (a b : Int) (w : World) (h : RI w v zs) (hl : zs.length ≤ 64) :
    Calls Try.prog 32 #[v, .int .i64 a, .int .i64 b] w fun e w' => e = .returned (.int .i64 (ct a b zs)) ∧ w = w' := by
  obtain ⟨ao, cap, rfl⟩ := h.shape
  have G := Lib.hid h
  clear h
  go_enter Try.func32, Try.ntmps32
  go_wp2_with fail
  go_loop [7, 8] (fun tv av => ∃ (i t : Nat), av = .int .i64 i ∧ i ≤ zs.length ∧ tv = .int .i64 t ∧ t ≤ i ∧ t + ct a b (zs.drop i) = ct a b zs) (fun _ av => zs.length - (intOf av).toNat)
  case atStart => exact ⟨0, 0, rfl, Nat.zero_le _, rfl, Nat.zero_le _, by rw [List.drop_zero]; simp⟩
  case round =>
    obtain ⟨i, t, rfl, hi, rfl, ht, hct⟩ := hrel
    by_cases hil2 : i + 1 < zs.length
    · have hil : i < zs.length := by omega
      obtain ⟨b0, o0, e0, -, hcc⟩ := (G.out).2.cells (by omega)
      obtain rfl := e0
      have c0 := hcc i hil
      have c1 := hcc (i + 1) hil2
      have i1l : (i : Int) + 1 < (zs.length : Int) := by omega
      by_cases hx : zs[i] = a
      · by_cases hy : zs[i + 1] = b
        · have hm := mg_yes (L := 0) hil2 hx hy
          have Hct := Lib.hid (show t + 1 + ct a b (zs.drop (i + 2)) = ct a b zs by rw [← hct, hm.2]; omega)
          have hxb : (zs[i] == a) = true := by simpa using hx
          have hyb : (zs[i + 1] == b) = true := by simpa using hy
          clear hcc hm hx hy hct
          generalize zs[i] = x at *
          generalize zs[i + 1] = y at *
          go_wp2
          go_round
          case rel => exact ⟨i + 2, t + 1, by go_num, by omega, by go_num, by omega, Hct.out⟩
          case measure => simp [intOf] <;> omega
        · have hm := mg_no (a := a) (b := b) (L := 0) hil (fun _ e => hy e.2)
          have Hct := Lib.hid (show t + ct a b (zs.drop (i + 1)) = ct a b zs by rw [← hct, hm.2])
          have hxb : (zs[i] == a) = true := by simpa using hx
          have hyb : (zs[i + 1] == b) = false := by simpa using hy
          clear hcc hm hx hy hct
          generalize zs[i] = x at *
          generalize zs[i + 1] = y at *
          go_wp2
          go_round
          case rel => exact ⟨i + 1, t, by go_num, by omega, rfl, by omega, Hct.out⟩
          case measure => simp [intOf] <;> omega
      · have hm := mg_no (a := a) (b := b) (L := 0) hil (fun _ e => hx e.1)
        have Hct := Lib.hid (show t + ct a b (zs.drop (i + 1)) = ct a b zs by rw [← hct, hm.2])
        have hxb : (zs[i] == a) = false := by simpa using hx
        clear hcc hm hx hct c1
        generalize zs[i] = x at *
        go_wp2
        go_round
        case rel => exact ⟨i + 1, t, by go_num, by omega, rfl, by omega, Hct.out⟩
        case measure => simp [intOf] <;> omega
    · have Hct := Lib.hid (show ct a b zs = t by rw [← hct, ct_end (by omega)]; rfl)
      have i1l : ¬ (i : Int) + 1 < (zs.length : Int) := by omega
      clear hct
      go_wp2
      go_ret
      exact ⟨ret_i64 (by rw [Hct.out]), rfl⟩
end Go.Proofs.Ytjeakgakpioieaa
