/- The walks over IsTwoPhase, ConflictsOf, and of the law FnLockPointOrderSerial. -/
import Derived.Test.YtddpdcnbdbnljaaDoorHistW
import Derived.Test.YtddpdcnbdbnljaaDoorPlaceW
namespace Go.Proofs.YtddpdcnbdbnljaaDoor
open Go.RowKit

def FrTo (list : List St) (who : Int) (k : Nat) : Prop := ∃ (i : Nat) (x : St), i < k ∧ list[i]? = some x ∧ x.who = who ∧ x.free = true
def TPto (list : List St) (who : Int) (k : Nat) : Prop := ∀ (i j : Nat) (x y : St), i < j → j < k → list[i]? = some x → list[j]? = some y → x.who = who → x.free = true → ¬ Takes y who
theorem FrTo_t {list : List St} {who : Int} {k : Nat} {x : St} (hx : list[k]? = some x) (h1 : x.who = who) (h2 : x.free = true) : FrTo list who (k + 1) := ⟨k, x, by omega, hx, h1, h2⟩
theorem FrTo_f {list : List St} {who : Int} {k : Nat} {x : St} (hx : list[k]? = some x) (h : ¬ (x.who = who ∧ x.free = true)) : FrTo list who (k + 1) ↔ FrTo list who k := by
  constructor
  · rintro ⟨i, y, h1, h2, h3, h4⟩
    by_cases e : i = k
    · subst e; rw [hx] at h2; injection h2 with h2; subst h2; exact absurd ⟨h3, h4⟩ h
    · exact ⟨i, y, by omega, h2, h3, h4⟩
  · rintro ⟨i, y, h1, h2⟩; exact ⟨i, y, by omega, h2⟩
theorem TPto_s {list : List St} {who : Int} {k : Nat} {x : St} (hx : list[k]? = some x) (h : TPto list who k) (hn : FrTo list who k → ¬ Takes x who) : TPto list who (k + 1) := fun i j a b h1 h2 h3 h4 h5 h6 => by
  by_cases e : j = k
  · subst e; rw [hx] at h4; injection h4 with h4; subst h4; exact hn ⟨i, a, h1, h3, h5, h6⟩
  · exact h i j a b h1 (by omega) h3 h4 h5 h6
open Classical in
noncomputable def tpB (list : List St) (who : Int) : Bool := decide (TP list who)
open Classical in
theorem tpB_iff {list : List St} {who : Int} : tpB list who = true ↔ TP list who := by unfold tpB; exact decide_eq_true_iff
theorem tpB_f {list : List St} {who : Int} (h : ¬ TP list who) : tpB list who = false := by
  cases e : tpB list who with
  | false => rfl
  | true => exact absurd (tpB_iff.1 e) h
set_option maxHeartbeats 1600000 in
theorem IsTwoPhase_any (lo : Nat) (A : Option Addr) (n c : Nat) (list : List St) (who : Int) (w : World) (hr : Rd cS 4 w lo A n list) (hn : n ≤ 1000000) (hT : Tb w) (hv : VS list) :
    Calls Tryd.prog 30 #[.slice A n c, .int .i64 who] w fun e w' => e = .returned (.bool (tpB list who)) ∧ Below w.heap.size w w' := by
  have HC := Lib.hid (ValidSteps_any lo A n c list w hr hn hT)
  rw [vsB_t hv] at HC
  have HL := Lib.hid hr.len
  generalize hR : tpB list who = R
  have HR := Lib.hid hR
  clear hR hv hT
  go_enter Tryd.func30, Tryd.ntmps30
  go_wp2_with fail
  refine HC.out.mono ?_
  rintro e w1 ⟨rfl, hb1⟩
  go_wp2_with fail
  go_loopw [5, 13] (fun v i wr => ∃ (k : Nat) (fb : Bool), k ≤ n ∧ i = .int .i64 k ∧ v = .bool fb ∧ Below w.heap.size w wr ∧ (fb = true ↔ FrTo list who k) ∧ TPto list who k) (fun _ i _ => n - (intOf i).toNat)
  case atStart => exact ⟨0, false, Nat.zero_le _, rfl, rfl, hb1, ⟨(fun h => by cases h), (fun ⟨_, _, h, _⟩ => by omega)⟩, fun i j x y h1 h2 => by omega⟩
  case round =>
    rename World => W1
    obtain ⟨k, fb, hk, rfl, rfl, hbl, hfb, htp⟩ := hrel
    have hs := hbl.size
    have HFB := Lib.hid hfb
    have HTP := Lib.hid htp
    clear hfb htp
    by_cases hlt : k < n
    case neg =>
      have : R = true := by
        rw [← HR.out]
        refine tpB_iff.2 fun i j x y h1 h2 h3 => ?_
        have := (List.getElem?_eq_some_iff.1 h3).1
        exact HTP.out i j x y h1 (by have := HL.out; omega) h2 h3
      subst this
      go_wp2_with fail
      go_ret
      exact ⟨rfl, hbl⟩
    obtain ⟨b, o, x, rfl, _, hb, hx, g0, g1, g2, g3⟩ := (hr.below hbl).atS hlt
    have HX := Lib.hid hx
    have hbA := hbl.alloc hs (.cells #[.int .i64 x.who, .bool x.free, .int .i64 x.node, .int .i64 x.mode] 30)
    obtain ⟨xw, xf, xn, xm⟩ := x
    simp only at g0 g1 g2 g3
    clear hx
    by_cases e1 : xw = who
    case neg =>
      have e2 : (xw != who) = true := by simpa using e1
      have HF := Lib.hid (HFB.out.trans (FrTo_f (who := who) HX.out fun h => e1 h.1).symm)
      have HT := Lib.hid (TPto_s HX.out HTP.out fun _ h => e1 h.1)
      clear e1
      go_wp2_with fail
      go_roundw
      case rel => exact ⟨k + 1, fb, by omega, by go_num, rfl, hbA, HF.out, HT.out⟩
      case measure => simp [intOf]; omega
    have e2 : (xw != who) = false := by simpa using e1
    cases xf with
    | true =>
      have HF : Hid (true = true ↔ FrTo list who (k + 1)) := ⟨fun _ => FrTo_t HX.out e1 rfl, fun _ => rfl⟩
      have HT := Lib.hid (TPto_s HX.out HTP.out fun _ h => by cases h.2)
      clear e1
      cases fb with
      | true =>
        go_wp2_with fail
        go_roundw
        case rel => exact ⟨k + 1, true, by omega, by go_num, rfl, hbA, HF.out, HT.out⟩
        case measure => simp [intOf]; omega
      | false =>
        go_wp2_with fail
        go_roundw
        case rel => exact ⟨k + 1, true, by omega, by go_num, rfl, hbA, HF.out, HT.out⟩
        case measure => simp [intOf]; omega
    | false =>
      cases fb with
      | true =>
        have : R = false := by
          rw [← HR.out]
          obtain ⟨i, y, h1, h2, h3, h4⟩ := HFB.out.1 rfl
          exact tpB_f fun h => h i k y _ h1 h2 HX.out h3 h4 ⟨e1, rfl⟩
        subst this
        clear e1
        go_wp2_with fail
        go_ret
        exact ⟨rfl, hbA⟩
      | false =>
        have HF := Lib.hid (HFB.out.trans (FrTo_f (who := who) HX.out fun h => by cases h.2).symm)
        have HT := Lib.hid (TPto_s HX.out HTP.out fun h => absurd (HFB.out.2 h) (by simp))
        clear e1
        go_wp2_with fail
        go_roundw
        case rel => exact ⟨k + 1, false, by omega, by go_num, rfl, hbA, HF.out, HT.out⟩
        case measure => simp [intOf]; omega
/-- A pair of transactions in a block of its own. -/
structure Pr where
  g : Nat
  a : Int
  b : Int
def cP (x : Pr) : List Value := [.slice (some ⟨x.g, 0, none⟩) 2 2]
theorem one_P (x : Pr) : ∀ u ∈ cP x, u.oneCell' = true := by intro u hu; simp only [cP, List.mem_cons, List.not_mem_nil, or_false] at hu; subst hu; rfl
theorem elP : ElemT Tryd.prog cP 1 41 35 24 := mkElem (z := .slice none 0 0) Tryd.underlying41 (by kernel_rfl) rfl (by omega) (by omega) (fun _ => rfl) one_P
theorem Rd.atP {w : World} {lo n k : Nat} {A : Option Addr} {l : List Pr} (h : Rd cP 1 w lo A n l) (hk : k < n) : ∃ b o x, A = some ⟨b, o, none⟩ ∧ lo ≤ b ∧ b < w.heap.size ∧ l[k]? = some x ∧ w.cell? ⟨b, o + k, none⟩ = some (.slice (some ⟨x.g, 0, none⟩) 2 2) := by
  obtain ⟨b, o, x, e, hlo, hb, hx, hc⟩ := h.get hk
  exact ⟨b, o, x, e, hlo, hb, hx, by simpa using hc 0 _ rfl⟩
def PairsP (w : World) (h : List Ac) (e : Ending) (w' : World) : Prop := ∃ (v : Value) (ps : List Pr), e = .returned v ∧ Own cP 1 35 w' w.heap.size v ps ∧ ps.length ≤ 16 ∧ (∀ x ∈ ps, w'.heap[x.g]? = some (.cells #[.int .i64 x.a, .int .i64 x.b] 3 (0, 0)) ∧ Cf h x.a x.b) ∧ Below w.heap.size w w'
theorem own_keep {α : Type} {cs : α → List Value} {sz : Nat} {e : TypeId} {w w' : World} {base g : Nat} {v : Value} {l : List α} {ds : Array Value} {ty : TypeId} (ho : Own cs sz e w base v l) (hg : w.grownBy w' v.ownBlock) (hty : ty ≠ e) (h : w.heap[g]? = some (.cells ds ty (0, 0))) : w'.heap[g]? = some (.cells ds ty (0, 0)) := by
  refine (hg.block g (blk_lt h) fun hc => ?_).trans h
  rcases ho.2 with ⟨rfl, _⟩ | ⟨g2, cap, cur, rfl, _, hg2, _⟩
  · simp [Value.ownBlock] at hc
  · simp only [Value.ownBlock, Option.some.injEq] at hc
    subst hc
    rw [h] at hg2
    injection hg2 with hg2
    injection hg2 with _ hg2 _
    exact hty hg2
set_option maxHeartbeats 3200000 in
theorem ConflictsOf_t (lo : Nat) (A : Option Addr) (n c : Nat) (h : List Ac) (w : World) (hr : Rd cA 3 w lo A n h) (hc : n ≤ c) (hv : VA h) :
    Calls Tryd.prog 31 #[.slice A n c] w (PairsP w h) := by
  have HVA := Lib.hid hv
  clear hv
  go_enter Tryd.func31, Tryd.ntmps31
  go_wp2_with fail
  refine (ValidAccesses_t _ A n c h _ hr HVA.out).mono ?_
  rintro e w1 ⟨rfl, hb1⟩
  have hr1 := hr.below hb1
  go_wp2_with fail
  refine (behindOf_t _ A n c h _ hr1 hc HVA.out).mono ?_
  rintro e w2 ⟨⟨M, rfl, hM⟩, hb2⟩
  have hB2 := hb1.trans (hb2.mono hb1.size)
  have HM := Lib.hid hM
  have hs0 := hB2.size
  clear hr hr1 hb1 hb2 hM
  go_wp2_with fail
  go_loopw [4, 12] (fun v i wr => ∃ (k : Nat) (ps : List Pr), k ≤ 4 ∧ i = .int .i64 k ∧ ps.length ≤ 4 * k ∧ Below w.heap.size w wr ∧ wr.heap[w2.heap.size]? = some (.cells #[.int .i64 (M 0), .int .i64 (M 1), .int .i64 (M 2), .int .i64 (M 3)] 71 (0, 0)) ∧
      Own cP 1 35 wr w.heap.size v ps ∧ ∀ x ∈ ps, wr.heap[x.g]? = some (.cells #[.int .i64 x.a, .int .i64 x.b] 3 (0, 0)) ∧ Cf h x.a x.b) (fun _ i _ => 4 - (intOf i).toNat)
  case atStart => exact ⟨0, [], Nat.zero_le _, rfl, by simp, hB2.alloc hs0 _, heap_alloc_new w2 _, Own.nil _ _, fun x hx => by cases hx⟩
  case round =>
    rename World => W1
    obtain ⟨k, ps, hk, rfl, hpl, hbl, hB, ho, hps⟩ := hrel
    have hs := hbl.size
    by_cases hlt : k < 4
    case neg =>
      go_wp2_with fail
      go_ret
      exact ⟨_, ps, rfl, ho, by omega, hps, hbl⟩
    have hlt' : (k : Int) < 4 := by omega
    go_wp2_with fail
    go_loopw [4, 15] (fun v i wr => ∃ (j : Nat) (ps : List Pr), j ≤ 4 ∧ i = .int .i64 j ∧ ps.length ≤ 4 * k + j ∧ Below w.heap.size w wr ∧ wr.heap[w2.heap.size]? = some (.cells #[.int .i64 (M 0), .int .i64 (M 1), .int .i64 (M 2), .int .i64 (M 3)] 71 (0, 0)) ∧
        Own cP 1 35 wr w.heap.size v ps ∧ ∀ x ∈ ps, wr.heap[x.g]? = some (.cells #[.int .i64 x.a, .int .i64 x.b] 3 (0, 0)) ∧ Cf h x.a x.b) (fun _ i _ => 4 - (intOf i).toNat)
    case atStart => exact ⟨0, ps, Nat.zero_le _, rfl, by omega, hbl, hB, ho, hps⟩
    case round =>
      rename World => W2
      clear hbl hB ho hps hpl hs
      obtain ⟨j, ps, hj, rfl, hpl, hbl, hB, ho, hps⟩ := hrel
      have hs := hbl.size
      by_cases hlt2 : j < 4
      case neg =>
        go_wp2_with fail
        go_roundw
        case rel => exact ⟨k + 1, ps, by omega, by go_num, by omega, hbl, hB, ho, hps⟩
        case measure => simp [intOf]; omega
      have hlt2' : (j : Int) < 4 := by omega
      have hc0 := blk_cell hB (rows_at M hlt)
      have a0 := aft hc0
      have hMk := (HM.out k hlt).1
      have HPS := Lib.hid hps
      have HB := Lib.hid hB
      clear hps hB
      cases h1 : (M k).testBit j with
      | false =>
        have e1 := bitA_f hMk hlt2 h1
        clear h1
        go_wp2_with fail
        refine wp_region_after (by kernel_rfl) (by kernel_rfl) ?_
        repeat (go_big_quiet_step (fail))
        refine wpQuiet_nil ?_
        intro w7 hb7
        go_wp2_with fail
        go_roundw
        case rel => exact ⟨j + 1, ps, by omega, by go_num, by omega, hbl.trans (hb7.mono hs), blk_below HB.out hb7, ho.below hb7, fun x hx => ⟨blk_below (HPS.out x hx).1 hb7, (HPS.out x hx).2⟩⟩
        case measure => simp [intOf]; omega
      | true =>
        obtain ⟨v1, e1, f1⟩ := bitA_t hMk hlt2 h1
        have HCF := Lib.hid (((HM.out k hlt).2 j hlt2).1 h1)
        clear h1
        go_wp2_with fail
        refine wp_region_after (by kernel_rfl) (by kernel_rfl) ?_
        repeat (go_big_quiet_step (fail))
        refine wpQuiet_nil ?_
        intro w7 hb7
        have hB7 := hbl.trans (hb7.mono hs)
        have hs7 := hB7.size
        have ho7 := ho.below hb7
        have hbA := hB7.alloc hs7 (.cells #[.int .i64 k, .int .i64 j] 3)
        have hoA := ho7.alloc (.cells #[.int .i64 k, .int .i64 j] 3)
        have hnew := blk_alloc (heap_alloc_new w7 (.cells #[.int .i64 k, .int .i64 j] 3)) (.cells #[.slice (some ⟨w7.heap.size, 0, none⟩) 2 2] 35)
        go_wp2_with (at_builtin; refine wpList_append_rd elP _ rfl (.tmp 25) (.tmp 29) rfl rfl (hoA.alloc _) rfl (Rd_oneg (w7.alloc (.cells #[.int .i64 k, .int .i64 j] 3)) #[.slice (some ⟨w7.heap.size, 0, none⟩) 2 2] 35 (⟨w7.heap.size, (k : Int), (j : Int)⟩ : Pr) rfl (w7.heap.size + 1) (by simp)) (by omega) (by simp; omega) ?_; intro v8 w8 ho8 hg8 _)
        have hoAA := hoA.alloc (.cells #[.slice (some ⟨w7.heap.size, 0, none⟩) 2 2] 35)
        have hb8 := below_own (hbA.alloc hbA.size (.cells #[.slice (some ⟨w7.heap.size, 0, none⟩) 2 2] 35)) hoAA hg8 (Nat.le_refl _) (by simp; omega)
        have HKP : Hid (∀ (g : Nat) (cs : Array Value) (ty : TypeId), ty ≠ 35 → ((w7.alloc (.cells #[.int .i64 k, .int .i64 j] 3)).alloc (.cells #[.slice (some ⟨w7.heap.size, 0, none⟩) 2 2] 35)).heap[g]? = some (.cells cs ty (0, 0)) → w8.heap[g]? = some (.cells cs ty (0, 0))) := fun g cs ty hty hg => own_keep hoAA hg8 hty hg
        go_roundw
        case rel => exact ⟨j + 1, ps ++ [⟨w7.heap.size, (k : Int), (j : Int)⟩], by omega, by go_num, by simp; omega, hb8, HKP.out _ _ _ (by decide) (blk_alloc (blk_alloc (blk_below HB.out hb7) _) _), ho8, fun x hx => by
          rcases List.mem_append.1 hx with hx | hx
          · exact ⟨HKP.out _ _ _ (by decide) (blk_alloc (blk_alloc (blk_below (HPS.out x hx).1 hb7) _) _), (HPS.out x hx).2⟩
          · simp at hx
            subst hx
            exact ⟨HKP.out _ _ _ (by decide) hnew, HCF.out⟩⟩
        case measure => simp [intOf]; omega
set_option maxRecDepth 100000 in
set_option maxHeartbeats 3200000 in
theorem lawLockPointOrderSerial (A : Option Addr) (n c : Nat) (zs : List Int) (w : World) (hn : n ≤ 1048576) (hr : Rd cB 1 w 0 A n zs) (hc : n ≤ c) (hz : ∀ (k : Nat) (z : Int), zs[k]? = some z → 0 ≤ z ∧ z ≤ 255) (hT : Tb w) :
    Calls Tryd.prog 6 #[.slice A n c] w fun e w' => e = .returned (.bool true) ∧ Below w.heap.size w w' := by
  have hn' : (n : Int) ≤ 1048576 := by omega
  go_enter Tryd.func6, Tryd.ntmps6
  go_wp2_with fail
  refine (DrawLockPointOrder_any A n c zs _ hr hc hz).mono ?_
  rintro e w1 ⟨A1, n1, c1, list, rfl, hc1, hrl, hn1, hb1⟩
  have hT1 := hT.below hb1
  go_wp2_with fail
  refine (LockPointOrder_any _ A1 n1 c1 list _ hrl (by omega) hT1).mono ?_
  rintro e w2 ⟨v2, rfl, ho2, hb2⟩
  have hl2 : (lpoI list).length ≤ 17 := by
    unfold lpoI
    have := lpo_len list
    have := hrl.len
    split
    · omega
    · simp
  obtain ⟨A2, n2, c2, rfl, hc2, hr2⟩ := ho2.rdn elI.len (by omega)
  have hB2 := hb1.trans (hb2.mono hb1.size)
  have hrl2 := hrl.below hb2
  go_wp2_with fail
  refine (LockPointOrderS_any _ A1 n1 c1 list _ hrl2 (by omega)).mono ?_
  rintro e w3 ⟨v3, rfl, ho3, hb3⟩
  obtain ⟨A3, n3, c3, rfl, hc3, hr3⟩ := ho3.rdn elI.len (by omega)
  have hB3 := hB2.trans (hb3.mono hB2.size)
  go_wp2_with fail
  refine (equalInts_t _ _ A2 A3 n2 c2 n3 c3 _ _ (hr2.below hb3) hr3).mono ?_
  rintro e w4 ⟨rfl, hb4⟩
  have hB4 := hB3.trans (hb4.mono hB3.size)
  have hrl4 := (hrl2.below hb3).below hb4
  have hr24 := (hr2.below hb3).below hb4
  have hT4 := hT.below hB4
  have HVS := Lib.hid (ValidSteps_any _ A1 n1 c1 list _ hrl4 (by omega) hT4)
  clear ho2 ho3 hr3 hr2 hrl2 hrl hT1 hb1 hb2 hb3 hB2 hB3 hr hz
  by_cases hv : VS list
  case neg =>
    rw [vsB_f hv] at HVS
    clear hv
    go_wp2_with fail
    refine HVS.out.mono ?_
    rintro e w5 ⟨rfl, hb5⟩
    have hB5 := hB4.trans (hb5.mono hB4.size)
    go_wp2_with fail
    refine (LockPointOrderS_any _ A1 n1 c1 list _ (hrl4.below hb5) (by omega)).mono ?_
    rintro e w6 ⟨v6, rfl, ho6, hb6⟩
    obtain ⟨A6, n6, c6, rfl, hc6, hr6⟩ := ho6.rdn elI.len (by omega)
    have hB6 := hB5.trans (hb6.mono hB5.size)
    go_wp2_with fail
    refine (equalInts_t _ _ A2 A6 n2 c2 n6 c6 _ _ ((hr24.below hb5).below hb6) hr6).mono ?_
    rintro e w7 ⟨rfl, hb7⟩
    go_wp2_with fail
    go_ret
    exact ⟨rfl, hB6.trans (hb7.mono hB6.size)⟩
  rw [vsB_t hv] at HVS
  rw [lpoI_t hv] at hr24 hl2
  have HV := Lib.hid hv
  have HL := Lib.hid hrl4.len
  have HL2 := Lib.hid hr24.len
  have hn217 : n2 ≤ 17 := by have := HL2.out; omega
  clear hv hl2
  go_wp2_with fail
  refine HVS.out.mono ?_
  rintro e w5 ⟨rfl, hb5⟩
  have hB5 := hB4.trans (hb5.mono hB4.size)
  have hrl5 := hrl4.below hb5
  have hr25 := hr24.below hb5
  have hT5 := hT4.below hb5
  have hn116 : n1 ≤ 16 := by have := HV.out.len; have := HL.out; omega
  have HTP : Hid (∀ (who : Int) w', Below w5.heap.size w5 w' → Calls Tryd.prog 30 #[.slice A1 n1 c1, .int .i64 who] w' fun e w'' => e = .returned (.bool (tpB list who)) ∧ Below w'.heap.size w' w'') := fun who w' hb' => IsTwoPhase_any _ A1 n1 c1 list who w' (hrl5.below hb') (by omega) (hT5.below hb') HV.out
  have HAC : Hid (∀ w', Below w5.heap.size w5 w' → Calls Tryd.prog 19 #[.slice A1 n1 c1] w' (AcP w' (acI list))) := fun w' hb' => AccessesOf_any _ A1 n1 c1 list w' (hrl5.below hb') (by omega) (hT5.below hb')
  rw [acI_t HV.out] at HAC
  have hacl : (acF list).length ≤ 16 := by have := acF_len list; have := HL.out; omega
  clear hrl4 hr24 hb4 hb5 hB4 HVS hT4 hT5
  go_wp2_with fail
  go_loopw [5] (fun i wr => ∃ k : Nat, k ≤ n1 ∧ i = .int .i64 k ∧ Below w5.heap.size w5 wr ∧ ∀ (i : Nat) (x : St), i < k → list[i]? = some x → TP list x.who ∧ (x.free = false → x.mode = 5)) (fun i _ => n1 - (intOf i).toNat)
  case atStart => exact ⟨0, Nat.zero_le _, rfl, Below.refl _ _, fun i x h => by omega⟩
  case round =>
    rename World => W1
    obtain ⟨k, hk, rfl, hbl, hall⟩ := hrel
    have hs := hbl.size
    have HALL := Lib.hid hall
    clear hall
    by_cases hlt : k < n1
    case pos =>
      obtain ⟨b, o, x, rfl, _, hb, hx, g0, g1, g2, g3⟩ := (hrl5.below hbl).atS hlt
      have HT1 := Lib.hid (HTP.out x.who W1 hbl)
      have HNX : Hid (TP list x.who ∧ (x.free = false → x.mode = 5) → ∀ (i : Nat) (y : St), i < k + 1 → list[i]? = some y → TP list y.who ∧ (y.free = false → y.mode = 5)) := fun h i y hi hy => by
        by_cases e : i = k
        · subst e; rw [hx] at hy; injection hy with hy; subst hy; exact h
        · exact HALL.out i y (by omega) hy
      obtain ⟨xw, xf, xn, xm⟩ := x
      simp only at g0 g1 g2 g3
      have HT2 : Hid (Calls Tryd.prog 30 #[.slice (some ⟨b, o, none⟩) n1 c1, .int .i64 xw] W1 fun e w'' => e = .returned (.bool (tpB list xw)) ∧ Below W1.heap.size W1 w'') := HT1.out
      clear hx HT1
      by_cases htp : TP list xw
      case neg =>
        rw [tpB_f htp] at HT2
        clear htp
        go_wp2_with fail
        refine HT2.out.mono ?_
        rintro e w6 ⟨rfl, hb6⟩
        go_wp2_with fail
        go_ret
        exact ⟨rfl, hB5.trans ((hbl.trans (hb6.mono hs)).mono hB5.size)⟩
      rw [tpB_iff.2 htp] at HT2
      have HTPX := Lib.hid htp
      clear htp
      go_wp2_with fail
      refine HT2.out.mono ?_
      rintro e w6 ⟨rfl, hb6⟩
      have hB6 := hbl.trans (hb6.mono hs)
      have d1 := (hb6.cell hb).trans g1
      have d3 := (hb6.cell hb).trans g3
      clear g0 g1 g2 g3 HT2
      cases xf with
      | true =>
        have HN := Lib.hid (HNX.out ⟨HTPX.out, fun h => by cases h⟩)
        go_wp2_with fail
        go_roundw
        case rel => exact ⟨k + 1, by omega, by go_num, hB6, HN.out⟩
        case measure => simp [intOf]; omega
      | false =>
        by_cases e5 : xm = 5
        · have HN := Lib.hid (HNX.out ⟨HTPX.out, fun _ => e5⟩)
          have e5' : (xm != 5) = false := by simpa using e5
          clear e5
          go_wp2_with fail
          go_roundw
          case rel => exact ⟨k + 1, by omega, by go_num, hB6, HN.out⟩
          case measure => simp [intOf]; omega
        · have e5' : (xm != 5) = true := by simpa using e5
          clear e5
          go_wp2_with fail
          go_ret
          exact ⟨rfl, hB5.trans (hB6.mono hB5.size)⟩
    have hall2 : ∀ (i : Nat) (x : St), list[i]? = some x → TP list x.who ∧ (x.free = false → x.mode = 5) := fun i x hx => HALL.out i x (by have := (List.getElem?_eq_some_iff.1 hx).1; have := HL.out; omega) hx
    have htpa : ∀ who, TP list who := fun who i j x y hij hx hy hw hf => by
      have := (hall2 i x hx).1 i j x y hij hx hy rfl hf
      rw [hw] at this; exact this
    have hmo : ∀ s ∈ list, s.free = false → s.mode = 5 := fun s hs' hf => by
      obtain ⟨i, hi⟩ := List.mem_iff_getElem?.1 hs'
      exact (hall2 i s hi).2 hf
    have HCF : Hid (∀ a b, Cf (acF list) a b → plF (lpoF list) a ≤ plF (lpoF list) b) := fun a b hc => pl_lt (cf_pos hc) (lp_cf HV.out htpa hmo hc)
    have HSRC : Hid (Src (Cf (acF list))) := Src_of (e := lpF list) fun a b hc => lp_cf HV.out htpa hmo hc
    have HVA : Hid (VA (acF list)) := acF_VA HV.out
    have HAC1 := Lib.hid (HAC.out W1 hbl)
    clear hall2 htpa hmo
    go_wp2_with fail
    refine HAC1.out.mono ?_
    rintro e w6 ⟨v6, rfl, ho6, hb6⟩
    have hB6 := hbl.trans (hb6.mono hs)
    obtain ⟨A6, n6, c6, rfl, hc6, hr6⟩ := ho6.rdn elA.len (by omega)
    have HCO := Lib.hid (ConflictsOf_t _ A6 n6 c6 _ w6 hr6 hc6 HVA.out)
    clear ho6 HAC1
    go_wp2_with fail
    refine HCO.out.mono ?_
    rintro e w7 ⟨v7, ps, rfl, ho7, hpl, hps, hb7⟩
    have hB7 := hB6.trans (hb7.mono hB6.size)
    obtain ⟨A7, n7, c7, rfl, hc7, hr7⟩ := ho7.rdn elP.len (by omega)
    have hn7 : n7 ≤ 16 := by have := hr7.len; omega
    have HPS := Lib.hid hps
    have hr67 := hr6.below hb7
    have hr27 := hr25.below hB7
    have hs7 := hB7.size
    clear ho7 hps HCO hr6 HALL hlt hk
    go_wp2_with fail
    go_loopw [8] (fun i wr => ∃ k : Nat, k ≤ n7 ∧ i = .int .i64 k ∧ Below w7.heap.size w7 wr) (fun i _ => n7 - (intOf i).toNat)
    case atStart => exact ⟨0, Nat.zero_le _, rfl, Below.refl _ _⟩
    case round =>
      rename World => W2
      obtain ⟨k, hk, rfl, hbl2⟩ := hrel
      have hs2 := hbl2.size
      by_cases hlt : k < n7
      case neg =>
        have HSO := Lib.hid (SerialOrder_t _ A6 n6 c6 _ W2 (hr67.below hbl2) hc6 HVA.out HSRC.out)
        go_wp2_with fail
        refine HSO.out.mono ?_
        rintro e w8 ⟨⟨v8, rfl⟩, hb8⟩
        go_wp2_with fail
        go_ret
        exact ⟨rfl, hB5.trans ((hB7.trans ((hbl2.trans (hb8.mono hs2)).mono hs7)).mono hB5.size)⟩
      obtain ⟨b, o, x, rfl, _, hb, hx, g0⟩ := (hr7.below hbl2).atP hlt
      obtain ⟨hxb, hxc⟩ := HPS.out x (List.mem_of_getElem? hx)
      have hxb2 := blk_below hxb hbl2
      have d0 := blk_cell (i := 0) hxb2 rfl
      have d1 := blk_cell (i := 1) hxb2 rfl
      have hle := HCF.out _ _ hxc
      have HP1 : Hid (∀ w', Below W2.heap.size W2 w' → Calls Tryd.prog 32 #[.slice A2 n2 c2, .int .i64 x.a] w' fun e w'' => e = .returned (.int .i64 (plF (lpoF list) x.a)) ∧ w' = w'') := fun w' hb' => placeOf_any _ A2 n2 c2 _ x.a w' ((hr27.below hbl2).below hb')
      have HP2 : Hid (∀ w', Below W2.heap.size W2 w' → Calls Tryd.prog 32 #[.slice A2 n2 c2, .int .i64 x.b] w' fun e w'' => e = .returned (.int .i64 (plF (lpoF list) x.b)) ∧ w' = w'') := fun w' hb' => placeOf_any _ A2 n2 c2 _ x.b w' ((hr27.below hbl2).below hb')
      obtain ⟨xg, xa, xb⟩ := x
      simp only at g0 d0 d1 hle HP1 HP2
      generalize plF (lpoF list) xa = pa at *
      generalize plF (lpoF list) xb = pb at *
      have hle' : ¬ pb < pa := by omega
      have q0 : (k : Int) < (n7 : Int) := by omega
      have a0 := aft g0
      have a1 := aft d0
      have a2 := aft d1
      clear hx hxb hxc hle hxb2
      go_wp2_with fail
      refine wp_region_after (by kernel_rfl) (by kernel_rfl) ?_
      repeat (go_big_quiet_step ((first | (go_at_call 32; with_reducible exact aft_same (HP1.out _ (After.below _))) | (go_at_call 32; with_reducible exact aft_same (HP2.out _ (After.below _))))))
      refine wpQuiet_nil ?_
      intro w9 hb9
      go_wp2_with fail
      go_roundw
      case rel => exact ⟨k + 1, by omega, by go_num, hbl2.trans (hb9.mono hs2)⟩
      case measure => simp [intOf]; omega
end Go.Proofs.YtddpdcnbdbnljaaDoor
