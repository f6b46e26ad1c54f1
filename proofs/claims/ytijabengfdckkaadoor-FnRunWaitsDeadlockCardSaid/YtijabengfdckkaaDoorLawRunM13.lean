/- Words for draws: what an append keeps of a reader; someAt, someMode. The walks over someScripts, somePicks and the draws of runs. The walk over equalInts (lists that are the same). What runs hand back, in plain words. The walk over marked. The walks over RunValues, RunOrder, RunLocks, RunWaits of the program. The walks over the reference's run, RunValues, RunOrder, RunLocks. What a law on runs is handed: a tree, scripts and picks, and the calls on them. The walks over ValidWaits, WaitsFor, DeadlockOf. The walk over DeadlockOf. The walk over RunWaits of the program. The walk over the reference's RunWaits. What the laws on runs say of what runs hand back, in plain words; two lists of the call's own that lie apart. The walk over equalWaits (lists that are the same); the reference's RunWaits as a law on runs calls it. The walk of the law FnRunWaitsDeadlock. -/
import Derived.Test.YtijabengfdckkaaDoorAnyTree
import Derived.Test.YtijabengfdckkaaDoorWords6
import Derived.Test.YtijabengfdckkaaDoorWords7
import Derived.Test.YtijabengfdckkaaDoorScrW
import Derived.Test.YtijabengfdckkaaDoorElems
import Derived.Test.YtijabengfdckkaaDoorWords4
import Derived.Test.YtijabengfdckkaaDoorRunP4
import Derived.Test.YtijabengfdckkaaDoorInts
import Derived.Test.YtijabengfdckkaaDoorRunW
import Derived.Test.YtijabengfdckkaaDoorTabW2
import Derived.Test.YtijabengfdckkaaDoorPickS
import Derived.Test.YtijabengfdckkaaDoorWaitQ
import Derived.Test.YtijabengfdckkaaDoorPlaceW
import Derived.Test.YtijabengfdckkaaDoorTreeW
import Derived.Test.YtijabengfdckkaaDoorWords3
import Derived.Test.YtijabengfdckkaaDoorGrainL
import Derived.Deep.QuietTactic
import Derived.BigQuiet
namespace Go.Proofs.YtijabengfdckkaaDoor
open Go.RowKit

/-- What an append onto a row of the call's own keeps. -/
theorem grown_own {α : Type} {cs : α → List Value} {sz : Nat} {e : TypeId} {w0 w w' : World} {R base : Nat} {v : Value} {l : List α} (h : w0.grownBy w (some R)) (ho : Own cs sz e w base v l) (hg : w.grownBy w' v.ownBlock) (hB : w0.heap.size ≤ base) : w0.grownBy w' (some R) :=
  ⟨hg.os.trans h.os, hg.tape.trans h.tape, hg.output.trans h.output, Nat.le_trans h.size hg.size, fun i hi hne =>
    (hg.block i (Nat.lt_of_lt_of_le hi h.size) (fun e => by have := (ho.blk i e.symm).1; omega)).trans (h.block i hi hne)⟩
theorem Rdr.own {α : Type} {cs : α → List Value} {sz : Nat} {e : TypeId} {w w' : World} {R p base : Nat} {v : Value} {l : List α} (h : Rdr w R p) (ho : Own cs sz e w base v l) (hg : w.grownBy w' v.ownBlock) (hB : R < base) : Rdr w' R p :=
  h.keep fun b hb => hg.block b (by have := h.lt; omega) (fun e => by have := (ho.blk b e.symm).1; omega)
theorem grown_alloc {w0 w : World} {row : Option Nat} (h : w0.grownBy w row) (o : Obj) : w0.grownBy (w.alloc o) row := grown_below h ((Below.refl _ _).alloc (Nat.le_refl _) o)

theorem below_of_grown {w w1 w2 : World} (h1 : Below w.heap.size w w1) {R : Nat} (h2 : w1.grownBy w2 (some R)) (hR : w.heap.size ≤ R) : Below w.heap.size w w2 :=
  h1.grown h2 h1.size fun k hk => by injection hk with hk; omega

theorem Adv.tr {w w1 w2 : World} {R p q p1 q1 q2 : Nat} (h : Adv w R p q w1) (hp : ∀ p', p' ≤ p + q → Rdr w1 R p' → p' ≤ p1) (h2 : ∀ p', Rdr w1 R p' → p' ≤ p1 → Adv w1 R p' q1 w2) (hq : p1 + q1 ≤ p + q2) : Adv w R p q2 w2 := by
  obtain ⟨⟨p', hp', hr⟩, hg⟩ := h
  have h1 := hp p' hp' hr
  obtain ⟨⟨p2, hp2, hr2⟩, hg2⟩ := h2 p' hr h1
  exact ⟨⟨p2, by omega, hr2⟩, grown_trans hg hg2⟩

/-- What was read before a row of the call's own was laid is read behind an append onto it. -/
theorem Rd.own {α β : Type} {cs : α → List Value} {cs' : β → List Value} {sz sz' lo lo0 n base : Nat} {e : TypeId} {w0 w w' : World} {A : Option Addr} {l : List α} {v : Value} {l' : List β} (h : Rd cs sz w lo A n l) (h0 : Rd cs sz w0 lo0 A n l) (hB : w0.heap.size ≤ base) (ho : Own cs' sz' e w base v l') (hg : w.grownBy w' v.ownBlock) : Rd cs sz w' lo A n l := by
  refine ⟨h.1, h.2.1, fun hn => ?_⟩
  obtain ⟨b, o, e, hlo, hlt, hc⟩ := h.2.2 hn
  obtain ⟨b0, o0, e0, _, hlt0, _⟩ := h0.2.2 hn
  rw [e] at e0
  simp only [Option.some.injEq, Addr.mk.injEq, and_true] at e0
  refine ⟨b, o, e, hlo, Nat.lt_of_lt_of_le hlt hg.size, fun k x hx j u hu => (World.cell?_of_block (hg.block b hlt ?_)).trans (hc k x hx j u hu)⟩
  intro e2
  have := (ho.blk b e2.symm).1
  omega


def ScrD (w : World) (R p q : Nat) (e : Ending) (w' : World) : Prop := ∃ (A : Option Addr) (m c : Nat) (sc : List (List Dd)), e = .returned (.slice A m c) ∧ m ≤ c ∧ Rds cD 2 w' w.heap.size A m sc ∧ m ≤ 5 ∧ Adv w R p q w'
def PicksD (w : World) (R p q : Nat) (e : Ending) (w' : World) : Prop := ∃ (A : Option Addr) (m c : Nat) (l : List Int), e = .returned (.slice A m c) ∧ m ≤ c ∧ Rd cI 1 w' w.heap.size A m l ∧ m ≤ 17 ∧ Adv w R p q w'

set_option maxRecDepth 100000 in
set_option maxHeartbeats 3200000 in
theorem someScripts_any (R p : Nat) (A : Option Addr) (n c : Nat) (w : World) (hr : Rdr w R p) (hp : p ≤ 600000000) (hn : n ≤ 1000) :
    Calls Tryd.prog 31 #[.pointer (some ⟨R, 0, none⟩), .slice A n c] w (ScrD w R p 60) := by
  have hRl := hr.lt
  go_enter Tryd.func31, Tryd.ntmps31
  go_wp2_with fail
  refine (one_any R p _ _ 6 6 [3, 2, 4, 1, 0, 5] _ ((hr.alloc _).alloc _) (by omega) (Rd_newIg (w.alloc (.cells #[] 43)) _ _ _ _ (by simp) (by simp) rfl) (by omega) (by omega)).mono ?_
  rintro e w2 ⟨z, rfl, ⟨kz, hkz⟩, hr2, hg2⟩
  have hz : 0 ≤ z ∧ z ≤ 5 := by
    have hm := List.mem_of_getElem? hkz
    simp only [List.mem_cons, List.not_mem_nil, or_false] at hm
    omega
  obtain ⟨z0, z5⟩ := hz
  clear hkz
  go_wp2_with fail
  go_loopw [5, 6] (fun v i wr => ∃ (vs : List Sl) (sc : List (List Dd)) (y : Int) (q : Nat), i = .int .i64 y ∧ 0 ≤ y ∧ y ≤ 5 ∧ Own cV 1 43 wr w.heap.size v vs ∧ Owd cD 2 47 wr w.heap.size vs sc ∧ (∀ s ∈ sc, s.length ≤ 3) ∧ (vs.length : Int) + y ≤ 5 ∧
      (q : Int) + 8 * y ≤ p + 41 ∧ Rdr wr R q ∧ w.grownBy wr (some R)) (fun _ i _ => (intOf i).toNat)
  case atStart =>
    refine ⟨[], [], z, p + 1, rfl, z0, z5, ?_, Owd.nil, fun s h => (by cases h), by simpa using z5, by omega, hr2, ?_⟩
    · exact ((Own.empty (cs := cV) (sz := 1) w (fun _ => rfl)).alloc _).grown hg2 hRl
    · exact grown_trans (grown_of_below (((Below.refl _ _).alloc (Nat.le_refl _) _).alloc (by simp) _)) hg2
  case round =>
    rename World => W1
    obtain ⟨vs, sc, y, q, rfl, y0, y5, ho, hod, hs3, hl1, hq, hrr, hgg⟩ := hrel
    have hsr := hgg.size
    have HS3 := Lib.hid hs3
    have HOD := Lib.hid hod
    clear hs3 hod
    by_cases hy : 0 < y
    case neg =>
      have hy' : y ≤ 0 := by omega
      obtain ⟨A2, m, c2, rfl, hmc, hrd⟩ := ho.rdn (fun _ => rfl) (by omega)
      have hml := hrd.len
      have HL := Lib.hid hml
      have m5 : (m : Int) ≤ 5 := by omega
      have m5' : m ≤ 5 := by omega
      have HRDD := Lib.hid (HOD.out.rdd elD.len fun l hl => by have := HS3.out l hl; omega)
      clear hml
      by_cases hm : 0 < m
      case neg =>
        have hm' : (m : Int) ≤ 0 := by omega
        go_wp2_with fail
        go_ret
        exact ⟨_, _, _, sc, rfl, hmc, ⟨vs, hrd, HRDD.out⟩, m5', ⟨q, by omega, hrr⟩, hgg⟩
      have hm' : (0 : Int) < (m : Int) := by omega
      go_wp2_with fail
      refine (pick_any R q 16 _ hrr (by omega) (by omega)).mono ?_
      rintro e w3 ⟨a, rfl, a0, _, a2, hr3, hg3⟩
      clear a2
      have ho3 := ho.grown hg3 hRl
      have hrd3 := hrd.grown hg3 hRl
      have HOD3 := Lib.hid (HOD.out.grown hg3 hRl)
      have hG3 := grown_trans hgg hg3
      by_cases ha : a = 0
      case neg =>
        have ha' : (a == 0) = false := by simpa using ha
        have HRDD3 := Lib.hid (HRDD.out.grown hg3 hRl)
        clear ha
        go_wp2_with fail
        go_ret
        exact ⟨_, _, _, sc, rfl, hmc, ⟨vs, hrd3, HRDD3.out⟩, m5', ⟨q + 1, by omega, hr3⟩, hG3⟩
      subst ha
      go_wp2_with fail
      refine (one_any R (q + 1) _ _ 3 3 [0, 12, -1] _ (hr3.alloc _) (by omega) (Rd_newIg w3 _ _ _ _ rfl (by simp) rfl) (by have := hG3.size; omega) (by omega)).mono ?_
      rintro e w5 ⟨x1, rfl, _, hr5, hg5⟩
      have ho5 := (ho3.alloc (.cells #[.int .i64 0, .int .i64 12, .int .i64 (-1)] 3)).grown hg5 hRl
      have HOD5 := Lib.hid ((HOD3.out.alloc (.cells #[.int .i64 0, .int .i64 12, .int .i64 (-1)] 3)).grown hg5 hRl)
      have hG5 := grown_trans (grown_alloc hG3 (.cells #[.int .i64 0, .int .i64 12, .int .i64 (-1)] 3)) hg5
      go_wp2_with fail
      refine (one_any R (q + 2) _ _ 2 2 [51, 5] _ (hr5.alloc _) (by omega) (Rd_newIg w5 _ _ _ _ rfl (by simp) rfl) (by have := hG5.size; omega) (by omega)).mono ?_
      rintro e w6 ⟨x2, rfl, _, hr6, hg6⟩
      have ho6 := (ho5.alloc (.cells #[.int .i64 51, .int .i64 5] 3)).grown hg6 hRl
      have HOD6 := Lib.hid ((HOD5.out.alloc (.cells #[.int .i64 51, .int .i64 5] 3)).grown hg6 hRl)
      have hG6 := grown_trans (grown_alloc hG5 (.cells #[.int .i64 51, .int .i64 5] 3)) hg6
      clear ho ho3 ho5 hrd hrd3
      obtain ⟨g, m', cap, hv, hgb, hgl, -, -⟩ := ho6.form (by have := HL.out; omega)
      simp only [Value.slice.injEq] at hv
      obtain ⟨rfl, rfl, rfl⟩ := hv
      obtain ⟨_, hrdA⟩ := ho6.rds (fun _ => rfl) (by omega)
      obtain ⟨b', o', x', hA', _, _, hx', hcell⟩ := hrdA.get (k := 0) hm
      simp only [Option.some.injEq, Addr.mk.injEq, and_true] at hA'
      obtain ⟨rfl, rfl⟩ := hA'
      have g0 : w6.cell? ⟨g, 0, none⟩ = some (.slice x'.a x'.n x'.c) := by simpa using hcell 0 _ rfl
      have f0 := ho6.free 0
      have hsetO := (ho6.set (u := .slice (some ⟨w6.heap.size, 0, none⟩) 1 1) (x' := (⟨some ⟨w6.heap.size, 0, none⟩, 1, 1⟩ : Sl)) (j := 0) (fun _ => rfl) hx' rfl (by omega) (q := 0) rfl).alloc (.cells #[.int .i64 x1, .int .i64 x2] 47)
      have HSET := Lib.hid ((hsetO.rds (fun _ => rfl) (by simp; omega)).2)
      have hszs : (w6.setCell ⟨g, 0, none⟩ (.slice (some ⟨w6.heap.size, 0, none⟩) 1 1)).heap.size = w6.heap.size := by simp [World.setCell]
      have hoN : Own cD 2 47 ((w6.setCell ⟨g, 0, none⟩ (.slice (some ⟨w6.heap.size, 0, none⟩) 1 1)).alloc (.cells #[.int .i64 x1, .int .i64 x2] 47)) w6.heap.size (.slice (some ⟨w6.heap.size, 0, none⟩) 1 1) [(⟨x1, x2⟩ : Dd)] := by
        have := Own.lit (cs := cD) (sz := 2) (e := 47) (w6.setCell ⟨g, 0, none⟩ (.slice (some ⟨w6.heap.size, 0, none⟩) 1 1)) #[.int .i64 x1, .int .i64 x2] [⟨x1, x2⟩] (by simp) (fun _ => rfl) rfl
        rw [hszs] at this
        exact this
      have HODS := Lib.hid (((HOD6.out.map (w' := w6.setCell ⟨g, 0, none⟩ (.slice (some ⟨w6.heap.size, 0, none⟩) 1 1)) fun v l h => h.keepc (g := g) (by
        rcases h.ap ho6 (by decide) with h1 | h1
        · rw [h1]; simp
        · exact h1) 0 _).alloc (.cells #[.int .i64 x1, .int .i64 x2] 47)).set (k := 0) (v := ⟨some ⟨w6.heap.size, 0, none⟩, 1, 1⟩) (hoN.low (by have := hG6.size; omega)))
      have hRg : R < g := by omega
      have HR6 := Lib.hid ((hr6.keep (w' := w6.setCell ⟨g, 0, none⟩ (.slice (some ⟨w6.heap.size, 0, none⟩) 1 1)) fun b hb => Below.heap_setCell _ _ _ _ (by show b ≠ g; omega)).alloc (.cells #[.int .i64 x1, .int .i64 x2] 47))
      have HG6 : Hid (w.grownBy (w6.setCell ⟨g, 0, none⟩ (.slice (some ⟨w6.heap.size, 0, none⟩) 1 1)) (some R)) := ⟨hG6.os, hG6.tape, hG6.output, by simpa using hG6.size, fun i hi hne => (Below.heap_setCell _ _ _ _ (by show i ≠ g; omega)).trans (hG6.block i hi hne)⟩
      clear hrdA hcell hx' hsetO ho6 hoN hr5 hr6 hG6 hg6 hG5 hg5 hG3 hg3
      go_wp2_with fail
      go_ret
      refine ⟨_, _, _, sc.set 0 [⟨x1, x2⟩], rfl, hmc, ⟨_, HSET.out, HODS.out.rdd elD.len fun l hl => ?_⟩, m5', ⟨q + 3, by omega, HR6.out⟩, grown_alloc HG6.out _⟩
      · rcases List.mem_or_eq_of_mem_set hl with h | h
        · have := HS3.out l h; omega
        · subst h; simp
    have hRW : R < W1.heap.size := by omega
    have hoA := Own.empty (cs := cD) (sz := 2) (e := 47) W1 (fun _ => rfl)
    have hgA := grown_alloc (World.grownBy.refl W1 (some R)) (.cells #[] 47)
    go_wp2_with fail
    refine (pick_any R q 3 _ (hrr.alloc _) (by omega) (by omega)).mono ?_
    rintro e w3 ⟨a, rfl, a0, _, a2, hr3, hg3⟩
    have ha2 := a2 (by omega)
    clear a2
    have hw1 : IntKind.i64.wrap (1 + a) = 1 + a := IntWalk.i64_in _ (by omega)
    have ho3 := hoA.grown hg3 hRW
    have hG3 := grown_trans hgA hg3
    have HO := Lib.hid ho
    have HGG := Lib.hid hgg
    clear hoA hgA ho hgg hrr hg3
    go_wp2_with fail
    go_loopw [7, 8] (fun v i wr => ∃ (s : List Dd) (x : Int) (q' : Nat), i = .int .i64 x ∧ 0 ≤ x ∧ (s.length : Int) + x ≤ 3 ∧ Own cD 2 47 wr W1.heap.size v s ∧ (q' : Int) + 2 * x ≤ q + 7 ∧ Rdr wr R q' ∧ W1.grownBy wr (some R)) (fun _ i _ => (intOf i).toNat)
    case atStart => exact ⟨[], 1 + a, q + 1, rfl, by omega, by simp; omega, ho3, by omega, hr3, hG3⟩
    case round =>
      rename World => W2
      obtain ⟨s, x, q', rfl, x0, hx3, hos, hq', hrs, hgs⟩ := hrel
      have hs2 := hgs.size
      by_cases hx : 0 < x
      case neg =>
        have hx' : x ≤ 0 := by omega
        have ho2 := HO.out.grown hgs hRl
        have HOD2 := Lib.hid (HOD.out.grown hgs hRl)
        have HGS := Lib.hid (grown_trans HGG.out hgs)
        obtain ⟨A', m', c', rfl, hmc', hrs'⟩ := hos.rdn elD.len (by omega)
        have HL' := Lib.hid hrs'.len
        clear hrs'
        go_wp2_with (at_builtin; refine wpList_append_rd elV _ rfl (.tmp 38) (.tmp 40) rfl rfl (ho2.alloc _) rfl (Rd_one W2 #[.slice A' m' c'] 43 (⟨A', m', c'⟩ : Sl) rfl) (by omega) (by simp; omega) ?_; intro v5 w5 ho5 hg5 _)
        have hoB := ho2.alloc (.cells #[.slice A' m' c'] 43)
        have hosB := hos.alloc (.cells #[.slice A' m' c'] 43)
        have hod5 := (HOD2.out.alloc (.cells #[.slice A' m' c'] 43)).grow hoB hg5 (by decide)
        have hos5 := (hosB.grown' hg5 (hosB.ap hoB (by decide))).low hsr
        have hG5 := grown_own (grown_alloc HGS.out (.cells #[.slice A' m' c'] 43)) hoB hg5 (Nat.le_refl _)
        have hr5 := (hrs.alloc (.cells #[.slice A' m' c'] 43)).own hoB hg5 hRl
        go_roundw
        case rel => exact ⟨vs ++ [⟨A', m', c'⟩], sc ++ [s], y - 1, q', by go_num, by omega, by omega, ho5, hod5.snoc hos5, fun s' hs' => (by
          rcases List.mem_append.1 hs' with h | h
          · exact HS3.out s' h
          · simp only [List.mem_singleton] at h; subst h; omega), by simp; omega, by omega, hr5, hG5⟩
        case measure => simp [intOf]; omega
      go_wp2_with fail
      all_goals
        refine (pick_any R q' _ _ hrs (by omega) (by omega)).mono ?_
        rintro e w6 ⟨b, rfl, _, _, _, hr6, hg6⟩
        go_wp2_with fail
        refine (one_any R (q' + 1) _ _ 6 6 [0, 5, -3, 50, 1, 0] _ (hr6.alloc _) (by omega) (Rd_newIg w6 _ _ _ _ rfl (by simp) rfl) (by have := hg6.size; omega) (by omega)).mono ?_
        rintro e w7 ⟨d, rfl, _, hr7, hg7⟩
        have ho7 := ((hos.grown hg6 hRW).alloc (.cells #[.int .i64 0, .int .i64 5, .int .i64 (-3), .int .i64 50, .int .i64 1, .int .i64 0] 3)).grown hg7 hRW
        have hG7 := grown_trans (grown_alloc (grown_trans hgs hg6) (.cells #[.int .i64 0, .int .i64 5, .int .i64 (-3), .int .i64 50, .int .i64 1, .int .i64 0] 3)) hg7
        have hs7 := hG7.size
        clear hos hg6 hg7 hgs
        go_wp2_with (at_builtin; refine wpList_append_rd elD _ rfl (.tmp 25) (.tmp 36) rfl rfl (ho7.alloc _) rfl (Rd_one w7 #[.int .i64 b, .int .i64 d] 47 (⟨b, d⟩ : Dd) rfl) (by omega) (by simp; omega) ?_; intro v8 w8 ho8 hg8 _)
        have hG8 := grown_own (grown_alloc hG7 (.cells #[.int .i64 b, .int .i64 d] 47)) (ho7.alloc (.cells #[.int .i64 b, .int .i64 d] 47)) hg8 (Nat.le_refl _)
        have hr8 := (hr7.alloc (.cells #[.int .i64 b, .int .i64 d] 47)).own (ho7.alloc (.cells #[.int .i64 b, .int .i64 d] 47)) hg8 hRW
        go_roundw
        case rel => exact ⟨s ++ [⟨b, d⟩], x - 1, q' + 2, by go_num, by omega, by simp; omega, ho8, by omega, hr8, hG8⟩
        case measure => simp [intOf]; omega

set_option maxRecDepth 100000 in
set_option maxHeartbeats 3200000 in
theorem somePicks_any (R p many : Nat) (w : World) (hr : Rdr w R p) (hp : p ≤ 600000000) (hm : many ≤ 1000) :
    Calls Tryd.prog 32 #[.pointer (some ⟨R, 0, none⟩), .int .i64 (many : Int)] w (PicksD w R p 40) := by
  have hRl := hr.lt
  go_enter Tryd.func32, Tryd.ntmps32
  go_wp2_with fail
  refine (one_any R p _ _ 7 7 [8, 12, 16, 5, 3, 0, 17] _ ((hr.alloc _).alloc _) (by omega) (Rd_newIg (w.alloc (.cells #[] 3)) _ _ _ _ (by simp) (by simp) rfl) (by omega) (by omega)).mono ?_
  rintro e w2 ⟨z, rfl, ⟨kz, hkz⟩, hr2, hg2⟩
  have hz : 0 ≤ z ∧ z ≤ 17 := by
    have hm := List.mem_of_getElem? hkz
    simp only [List.mem_cons, List.not_mem_nil, or_false] at hm
    omega
  obtain ⟨z0, z17⟩ := hz
  clear hkz
  go_wp2_with fail
  go_loopw [5, 6] (fun v i wr => ∃ (l : List Int) (y : Int) (q : Nat), i = .int .i64 y ∧ 0 ≤ y ∧ y ≤ 17 ∧ Own cI 1 3 wr w.heap.size v l ∧ (l.length : Int) + y ≤ 17 ∧
      (q : Int) + y ≤ p + 18 ∧ Rdr wr R q ∧ w.grownBy wr (some R)) (fun _ i _ => (intOf i).toNat)
  case atStart =>
    refine ⟨[], z, p + 1, rfl, z0, z17, ?_, by simpa using z17, by omega, hr2, ?_⟩
    · exact ((Own.empty (cs := cI) (sz := 1) w (fun _ => rfl)).alloc _).grown hg2 hRl
    · exact grown_trans (grown_of_below (((Below.refl _ _).alloc (Nat.le_refl _) _).alloc (by simp) _)) hg2
  case round =>
    rename World => W1
    obtain ⟨l, y, q, rfl, y0, y17, ho, hl1, hq, hrr, hgg⟩ := hrel
    have hsr := hgg.size
    by_cases hy : 0 < y ∧ 0 < many
    case neg =>
      obtain ⟨A2, m, c2, rfl, hmc, hrd⟩ := ho.rdn (fun _ => rfl) (by omega)
      have hml := hrd.len
      have HL := Lib.hid hml
      have m17 : (m : Int) ≤ 17 := by omega
      have m17' : m ≤ 17 := by omega
      clear hml
      have hy' : ¬ (0 < y) ∨ ¬ (0 < (many : Int)) := by omega
      have hy2 : (decide (0 < y) && decide (0 < (many : Int))) = false := by
        rcases hy' with h | h
        · rw [decide_eq_false h]; rfl
        · rw [decide_eq_false h, Bool.and_false]
      by_cases hm0 : 0 < m
      case neg =>
        have hm' : (m : Int) ≤ 0 := by omega
        by_cases hy1 : 0 < y
        all_goals (
          have hy3 : 0 < y → (many : Int) ≤ 0 := fun _ => by omega
          clear hy hy'
          go_wp2_with fail
          all_goals (
            go_ret
            exact ⟨_, _, _, l, rfl, hmc, hrd, m17', ⟨q, by omega, hrr⟩, hgg⟩))
      have hm' : (0 : Int) < (m : Int) := by omega
      by_cases hy1 : 0 < y
      all_goals (
        have hy3 : 0 < y → (many : Int) ≤ 0 := fun _ => by omega
        clear hy hy'
        go_wp2_with fail
        refine (pick_any R q 20 _ hrr (by omega) (by omega)).mono ?_
        rintro e w3 ⟨a, rfl, a0, _, a2, hr3, hg3⟩
        clear a2
        have ho3 := ho.grown hg3 hRl
        have hrd3 := hrd.grown hg3 hRl
        have hG3 := grown_trans hgg hg3
        by_cases ha : a = 0
        case neg =>
          have ha' : (a == 0) = false := by simpa using ha
          clear ha
          go_wp2_with fail
          go_ret
          exact ⟨_, _, _, l, rfl, hmc, hrd3, m17', ⟨q + 1, by omega, hr3⟩, hG3⟩
        subst ha
        go_wp2_with fail
        refine (pick_any R (q + 1) m _ hr3 (by omega) (by omega)).mono ?_
        rintro e w4 ⟨k', rfl, k0, _, k2, hr4, hg4⟩
        have k3 := k2 (by omega)
        obtain ⟨k, rfl⟩ := Int.eq_ofNat_of_zero_le k0
        clear k2
        have ho4 := ho3.grown hg4 hRl
        have hG4 := grown_trans hG3 hg4
        go_wp2_with fail
        refine (one_any R (q + 2) _ _ 2 2 [-1, (many : Int)] _ (hr4.alloc _) (by omega) (Rd_newIg w4 _ _ _ _ rfl (by simp) rfl) (by have := hG4.size; omega) (by omega)).mono ?_
        rintro e w5 ⟨x1, rfl, _, hr5, hg5⟩
        have ho5 := (ho4.alloc (.cells #[.int .i64 (-1), .int .i64 many] 3)).grown hg5 hRl
        have hG5 := grown_trans (grown_alloc hG4 (.cells #[.int .i64 (-1), .int .i64 many] 3)) hg5
        clear ho ho3 ho4 hrd hrd3
        obtain ⟨g, m', cap, hv, hgb, hgl, -, -⟩ := ho5.form (by have := HL.out; omega)
        simp only [Value.slice.injEq] at hv
        obtain ⟨rfl, rfl, rfl⟩ := hv
        obtain ⟨_, hrd5⟩ := ho5.rds (fun _ => rfl) (by omega)
        obtain ⟨b', o', x', hA', _, _, hx', g0⟩ := hrd5.atI (k := k) (by omega)
        simp only [Option.some.injEq, Addr.mk.injEq, and_true] at hA'
        obtain ⟨rfl, rfl⟩ := hA'
        simp only [Nat.zero_add] at g0
        have f0 := ho5.free k
        have ho6 := ho5.set (u := .int .i64 x1) (x' := x1) (j := 0) (fun _ => rfl) hx' rfl (by omega) (q := k) (by omega)
        have HO := Lib.hid ((ho6.rds (fun _ => rfl) (by simp; omega)).2)
        have hRg : R < g := by omega
        clear ho6 hx' hrd5
        go_wp2_with fail
        go_ret
        refine ⟨_, _, _, _, rfl, hmc, HO.out, m17', ⟨q + 3, by omega, hr5.keep fun b hb => Below.heap_setCell _ _ _ _ (by show b ≠ g; omega)⟩, hG5.os, hG5.tape, hG5.output, by simpa using hG5.size, fun i hi hne => ?_⟩
        exact (Below.heap_setCell _ _ _ _ (by show i ≠ g; omega)).trans (hG5.block i hi hne))
    obtain ⟨hy1, hy2⟩ := hy
    have hy3 : (0 : Int) < (many : Int) := by omega
    go_wp2_with fail
    refine (pick_any R q many _ hrr (by omega) (by omega)).mono ?_
    rintro e w3 ⟨a, rfl, _, _, _, hr3, hg3⟩
    have ho3 := ho.grown hg3 hRl
    have hG3 := grown_trans hgg hg3
    have hs3 := hG3.size
    clear ho hg3
    go_wp2_with (at_builtin; refine wpList_append_rd elI _ rfl (.tmp 19) (.tmp 23) rfl rfl (ho3.alloc _) rfl (Rd_one w3 #[.int .i64 a] 3 a rfl) (by omega) (by simp; omega) ?_; intro v8 w8 ho8 hg8 _)
    have hG8 := grown_own (grown_alloc hG3 (.cells #[.int .i64 a] 3)) (ho3.alloc (.cells #[.int .i64 a] 3)) hg8 (Nat.le_refl _)
    have hr8 := (hr3.alloc (.cells #[.int .i64 a] 3)).own (ho3.alloc (.cells #[.int .i64 a] 3)) hg8 hRl
    go_roundw
    case rel => exact ⟨l ++ [a], y - 1, q + 1, by go_num, by omega, by omega, ho8, by simp; omega, by omega, hr8, hG8⟩
    case measure => simp [intOf]; omega

/-- A tree, scripts and picks are drawn. -/
def RunD (w : World) (e : Ending) (w' : World) : Prop := ∃ (A : Option Addr) (n c : Nat) (t : List Nd) (A2 : Option Addr) (m c2 : Nat) (sc : List (List Dd)) (A3 : Option Addr) (k c3 : Nat) (ps : List Int),
  e = .returned (.tuple #[.slice A n c, .slice A2 m c2, .slice A3 k c3]) ∧ n ≤ c ∧ Rd cN 3 w' w.heap.size A n t ∧ n ≤ 13 ∧ NmB t ∧ m ≤ c2 ∧ Rds cD 2 w' w.heap.size A2 m sc ∧ m ≤ 5 ∧ k ≤ c3 ∧ Rd cI 1 w' w.heap.size A3 k ps ∧ k ≤ 17 ∧ Below w.heap.size w w'

theorem DrawRunValues_any (A : Option Addr) (n c : Nat) (zs : List Int) (w : World) (hr : Rd cB 1 w 0 A n zs) (hc : n ≤ c) (hz : ∀ (k : Nat) (z : Int), zs[k]? = some z → 0 ≤ z ∧ z ≤ 255) :
    Calls Tryd.prog 13 #[.slice A n c] w (RunD w) := by
  go_enter Tryd.func13, Tryd.ntmps13
  go_wp2_with fail
  refine (newReader_any A n c zs _ hr hc hz).mono ?_
  rintro e w1 ⟨rfl, hr1, hb1⟩
  go_wp2_with fail
  refine (anyTree_any _ 0 _ hr1 (by omega)).mono ?_
  rintro e w2 ⟨A2, n2, c2, t, rfl, hc2, hrd2, hn2, hz2, ⟨p2, hp2, hr2⟩, hg2⟩
  have hb2 := below_of_grown hb1 hg2 (Nat.le_refl _)
  go_wp2_with fail
  refine (someScripts_any _ p2 A2 n2 c2 _ hr2 (by omega) (by omega)).mono ?_
  rintro e w3 ⟨A3, n3, c3, sc, rfl, hc3, hrd3, hn3, ⟨p3, hp3, hr3⟩, hg3⟩
  have hb3 := below_of_grown hb2 hg3 (Nat.le_refl _)
  have hs1 := hr1.lt
  have hrd2' := hrd2.grown hg3 hs1
  have hsz := hb2.size
  have hsz3 := hb3.size
  have hs2 := hr2.lt
  go_wp2_with fail
  refine (somePicks_any _ p3 n3 _ hr3 (by omega) (by omega)).mono ?_
  rintro e w4 ⟨A4, n4, c4, ps, rfl, hc4, hrd4, hn4, ⟨p4, hp4, hr4⟩, hg4⟩
  have hb4 := below_of_grown hb3 hg4 (Nat.le_refl _)
  have hrd2'' := hrd2'.grown hg4 hs1
  have hrd3' := hrd3.grown hg4 hs2
  go_wp2_with fail
  refine bodyPost_ret (v := .tuple #[.slice A2 n2 c2, .slice A3 n3 c3, .slice A4 n4 c4]) (by simp [results, Tryd.results13, go_sem]) rfl ?_
  exact ⟨_, _, _, t, _, _, _, sc, _, _, _, ps, rfl, hc2, hrd2''.low hb1.size, hn2, hz2, hc3, hrd3'.low hsz, hn3, hc4, hrd4.low hsz3, hn4, hb4⟩
theorem DrawRunWaits_any (A : Option Addr) (n c : Nat) (zs : List Int) (w : World) (hr : Rd cB 1 w 0 A n zs) (hc : n ≤ c) (hz : ∀ (k : Nat) (z : Int), zs[k]? = some z → 0 ≤ z ∧ z ≤ 255) :
    Calls Tryd.prog 4 #[.slice A n c] w (RunD w) := by
  go_enter Tryd.func4, Tryd.ntmps4
  go_wp2_with fail
  refine (DrawRunValues_any A n c zs _ hr hc hz).mono ?_
  rintro e w1 ⟨A1, n1, c1, t, A2, m, c2, sc, A3, k, c3, ps, rfl, h⟩
  go_wp2_with fail
  refine bodyPost_ret (v := .tuple #[.slice A1 n1 c1, .slice A2 m c2, .slice A3 k c3]) (by simp [results, Tryd.results4, go_sem]) rfl ?_
  exact ⟨A1, n1, c1, t, A2, m, c2, sc, A3, k, c3, ps, rfl, h⟩

open Classical in
/-- What a run hands back where its arguments are valid, nothing elsewhere. -/
noncomputable def onR {α : Type} (t : List Nd) (sc : List (List Dd)) (ps : List Int) (f : Mc → List α) : List α := if VR t sc ps then f (runM t sc ps) else []
theorem onR_t {α : Type} {t : List Nd} {sc : List (List Dd)} {ps : List Int} (h : VR t sc ps) (f : Mc → List α) : onR t sc ps f = f (runM t sc ps) := by unfold onR; rw [if_pos h]
theorem onR_f {α : Type} {t : List Nd} {sc : List (List Dd)} {ps : List Int} (h : ¬ VR t sc ps) (f : Mc → List α) : onR t sc ps f = [] := by unfold onR; rw [if_neg h]
noncomputable def rvF (t : List Nd) (sc : List (List Dd)) (ps : List Int) : List Int := onR t sc ps Mc.vals
noncomputable def roF (t : List Nd) (sc : List (List Dd)) (ps : List Int) : List Int := onR t sc ps Mc.fin
noncomputable def rlF (t : List Nd) (sc : List (List Dd)) (ps : List Int) : List Lk := onR t sc ps Mc.tab
noncomputable def rwF (t : List Nd) (sc : List (List Dd)) (ps : List Int) : List Wt := onR t sc ps fun m => wtF t sc m sc.length
theorem rvF_len {t : List Nd} {sc : List (List Dd)} {ps : List Int} : (rvF t sc ps).length ≤ 12 := by
  unfold rvF
  by_cases h : VR t sc ps
  · rw [onR_t h, h.inv.vlen]; exact h.1.2.1
  · rw [onR_f h]; simp
theorem roF_len {t : List Nd} {sc : List (List Dd)} {ps : List Int} : (roF t sc ps).length ≤ 4 := by
  unfold roF
  by_cases h : VR t sc ps
  · rw [onR_t h]; have := h.inv.finl; have := h.2.1.1; omega
  · rw [onR_f h]; simp
theorem rlF_len {t : List Nd} {sc : List (List Dd)} {ps : List Int} : (rlF t sc ps).length ≤ 48 := by
  unfold rlF
  by_cases h : VR t sc ps
  · rw [onR_t h]; exact h.inv.tab.1
  · rw [onR_f h]; simp
theorem rwF_len {t : List Nd} {sc : List (List Dd)} {ps : List Int} : (rwF t sc ps).length ≤ 12 := by
  unfold rwF
  by_cases h : VR t sc ps
  · rw [onR_t h]; exact (h.inv.waits h.1 h.2.1).1
  · rw [onR_f h]; simp
section
variable {t : List Nd} {sc : List (List Dd)} {m : Mc}
/-- The reference's way: each other script in order. -/
noncomputable def wtS (t : List Nd) (m : Mc) (who : Int) (d : Dd) (j : Nat) : List Wt := (((List.range j).map fun (o : Nat) => (o : Int)).filter (blkD t m who d)).map fun o => ⟨who, o⟩
theorem wtS_yes {who : Int} {d : Dd} {j : Nat} (h : blkD t m who d j = true) : wtS t m who d (j + 1) = wtS t m who d j ++ [⟨who, (j : Int)⟩] := by
  unfold wtS
  rw [List.range_succ, List.map_append, List.filter_append]
  simp [h]
theorem wtS_no {who : Int} {d : Dd} {j : Nat} (h : blkD t m who d j = false) : wtS t m who d (j + 1) = wtS t m who d j := by
  unfold wtS
  rw [List.range_succ, List.map_append, List.filter_append]
  simp [h]
theorem wtS_len (who : Int) (d : Dd) (j : Nat) : (wtS t m who d j).length ≤ j := by
  unfold wtS
  rw [List.length_map]
  refine Nat.le_trans (List.length_filter_le _ _) ?_
  simp
theorem mark_range {f : Int → Bool} {n : Nat} (hn : n ≤ 4) (h : ∀ o : Int, f o = true → o < n) : ((List.range n).map fun (o : Nat) => (o : Int)).filter f = markL f := by
  have e : ∀ k : Nat, n ≤ k → f k = false := fun k hk => by
    cases hf : f k with
    | false => rfl
    | true => have := h k hf; omega
  unfold markL
  match n, hn with
  | 0, _ =>
    have h0 := e 0 (by omega); have h1 := e 1 (by omega); have h2 := e 2 (by omega); have h3 := e 3 (by omega)
    simp at h0 h1 h2 h3
    simp [h0, h1, h2, h3]
  | 1, _ =>
    have h1 := e 1 (by omega); have h2 := e 2 (by omega); have h3 := e 3 (by omega)
    simp at h1 h2 h3
    simp [List.range_succ, List.filter_cons, h1, h2, h3]
  | 2, _ =>
    have h2 := e 2 (by omega); have h3 := e 3 (by omega)
    simp at h2 h3
    simp [List.range_succ, List.filter_cons, h2, h3]
  | 3, _ =>
    have h3 := e 3 (by omega)
    simp at h3
    simp [List.range_succ, List.filter_cons, h3]
  | 4, _ => simp [List.range_succ, List.filter_cons]
theorem wtS_full (h : Inv t sc m) (hsc : VSc t sc) {who : Nat} {d : Dd} (hd : nextD sc m who = some d) : wtS t m who d sc.length = wtOne t sc m who := by
  unfold wtOne
  rw [hd]
  simp only
  unfold wtS
  rw [mark_range hsc.1 fun o ho => ?_]
  obtain ⟨y, _, hy⟩ := List.any_eq_true.1 ho
  obtain ⟨i, e, hi, _⟩ := h.held _ _ (lbF_holds h.tab (of_decide_eq_true hy))
  omega
theorem wtOne_none {who : Nat} (hd : nextD sc m who = none) : wtOne t sc m who = [] := by unfold wtOne; rw [hd]
theorem wtOne_some {who : Nat} {d : Dd} (hd : nextD sc m who = some d) : wtOne t sc m who = (markL (blkD t m who d)).map fun o => ⟨(who : Int), o⟩ := by unfold wtOne; rw [hd]
theorem wtF_le (hsc : VSc t sc) {k : Nat} (hk : k ≤ sc.length) : (wtF t sc m k).length ≤ 12 := by
  have := wtF_len (m := m) hsc k hk
  have := hsc.1
  omega
end

set_option maxHeartbeats 1000000 in
theorem marked_any (f : Int → Bool) (w : World) :
    Calls Tryd.prog 17 #[.agg #[.bool (f 0), .bool (f 1), .bool (f 2), .bool (f 3)]] w (IntsP w (markL f)) := by
  generalize h0 : f 0 = b0
  generalize h1 : f 1 = b1
  generalize h2 : f 2 = b2
  generalize h3 : f 3 = b3
  have hF : ∀ k : Nat, k < 4 → f k = (match k with | 0 => b0 | 1 => b1 | 2 => b2 | _ => b3) := by
    intro k hk
    match k, hk with
    | 0, _ => exact h0
    | 1, _ => exact h1
    | 2, _ => exact h2
    | 3, _ => exact h3
  have HF := Lib.hid hF
  have HM : Hid ((([0, 1, 2, 3] : List Int).take 4).filter f = markL f) := (rfl : _ = _)
  clear h0 h1 h2 h3 hF
  have i0 : ∀ w, (Instr.index 44 (.agg #[.bool b0, .bool b1, .bool b2, .bool b3]) (.int .i64 0)).run Tryd.prog w = .ok (.bool b0) w := fun _ => by kernel_rfl
  have i1 : ∀ w, (Instr.index 44 (.agg #[.bool b0, .bool b1, .bool b2, .bool b3]) (.int .i64 1)).run Tryd.prog w = .ok (.bool b1) w := fun _ => by kernel_rfl
  have i2 : ∀ w, (Instr.index 44 (.agg #[.bool b0, .bool b1, .bool b2, .bool b3]) (.int .i64 2)).run Tryd.prog w = .ok (.bool b2) w := fun _ => by kernel_rfl
  have i3 : ∀ w, (Instr.index 44 (.agg #[.bool b0, .bool b1, .bool b2, .bool b3]) (.int .i64 3)).run Tryd.prog w = .ok (.bool b3) w := fun _ => by kernel_rfl
  go_enter Tryd.func17, Tryd.ntmps17
  go_wp2_with fail
  go_loopw [3, 7] (fun v i wr => ∃ k : Nat, k ≤ 4 ∧ i = .int .i64 k ∧ Own cI 1 3 wr w.heap.size v ((([0, 1, 2, 3] : List Int).take k).filter f) ∧ Below w.heap.size w wr) (fun _ i _ => 4 - (intOf i).toNat)
  case atStart => exact ⟨0, Nat.zero_le _, rfl, Own.nil _ _, (Below.refl _ _).alloc (Nat.le_refl _) _⟩
  case round =>
    obtain ⟨k, hk, rfl, ho, hbl⟩ := hrel
    have hs := hbl.size
    by_cases hlt : k < 4
    case neg =>
      obtain rfl : k = 4 := by omega
      rw [HM.out] at ho
      go_wp2_with fail
      go_ret
      exact ⟨_, rfl, ho, hbl⟩
    have hml := mark_len f k
    have hf := HF.out k hlt
    obtain rfl | rfl | rfl | rfl : k = 0 ∨ k = 1 ∨ k = 2 ∨ k = 3 := by omega
    all_goals simp only at hf
    · cases b0
      · have HS := Lib.hid (mark_f hlt hf)
        clear hf
        go_wp2_with fail
        go_roundw
        case rel => exact ⟨1, by omega, by go_num, by rw [HS.out]; exact ho, hbl⟩
        case measure => simp [intOf]
      · have HS := Lib.hid (mark_t hlt hf)
        clear hf
        go_wp2_with (at_builtin; refine wpList_append_rd elI _ rfl (.tmp 12) (.tmp 14) rfl rfl (ho.alloc _) rfl (Rd_one _ #[.int .i64 0] 3 0 rfl) (by omega) (by simp; omega) ?_; intro v3 w3 ho3 hg3 _)
        have hb3 := below_own (hbl.alloc hs _) (ho.alloc (.cells #[.int .i64 0] 3)) hg3 (Nat.le_refl _) (by simp; omega)
        go_roundw
        case rel => exact ⟨1, by omega, by go_num, by rw [HS.out]; exact ho3, hb3⟩
        case measure => simp [intOf]
    · cases b1
      · have HS := Lib.hid (mark_f hlt hf)
        clear hf
        go_wp2_with fail
        go_roundw
        case rel => exact ⟨2, by omega, by go_num, by rw [HS.out]; exact ho, hbl⟩
        case measure => simp [intOf]
      · have HS := Lib.hid (mark_t hlt hf)
        clear hf
        go_wp2_with (at_builtin; refine wpList_append_rd elI _ rfl (.tmp 12) (.tmp 14) rfl rfl (ho.alloc _) rfl (Rd_one _ #[.int .i64 1] 3 1 rfl) (by omega) (by simp; omega) ?_; intro v3 w3 ho3 hg3 _)
        have hb3 := below_own (hbl.alloc hs _) (ho.alloc (.cells #[.int .i64 1] 3)) hg3 (Nat.le_refl _) (by simp; omega)
        go_roundw
        case rel => exact ⟨2, by omega, by go_num, by rw [HS.out]; exact ho3, hb3⟩
        case measure => simp [intOf]
    · cases b2
      · have HS := Lib.hid (mark_f hlt hf)
        clear hf
        go_wp2_with fail
        go_roundw
        case rel => exact ⟨3, by omega, by go_num, by rw [HS.out]; exact ho, hbl⟩
        case measure => simp [intOf]
      · have HS := Lib.hid (mark_t hlt hf)
        clear hf
        go_wp2_with (at_builtin; refine wpList_append_rd elI _ rfl (.tmp 12) (.tmp 14) rfl rfl (ho.alloc _) rfl (Rd_one _ #[.int .i64 2] 3 2 rfl) (by omega) (by simp; omega) ?_; intro v3 w3 ho3 hg3 _)
        have hb3 := below_own (hbl.alloc hs _) (ho.alloc (.cells #[.int .i64 2] 3)) hg3 (Nat.le_refl _) (by simp; omega)
        go_roundw
        case rel => exact ⟨3, by omega, by go_num, by rw [HS.out]; exact ho3, hb3⟩
        case measure => simp [intOf]
    · cases b3
      · have HS := Lib.hid (mark_f hlt hf)
        clear hf
        go_wp2_with fail
        go_roundw
        case rel => exact ⟨4, by omega, by go_num, by rw [HS.out]; exact ho, hbl⟩
        case measure => simp [intOf]
      · have HS := Lib.hid (mark_t hlt hf)
        clear hf
        go_wp2_with (at_builtin; refine wpList_append_rd elI _ rfl (.tmp 12) (.tmp 14) rfl rfl (ho.alloc _) rfl (Rd_one _ #[.int .i64 3] 3 3 rfl) (by omega) (by simp; omega) ?_; intro v3 w3 ho3 hg3 _)
        have hb3 := below_own (hbl.alloc hs _) (ho.alloc (.cells #[.int .i64 3] 3)) hg3 (Nat.le_refl _) (by simp; omega)
        go_roundw
        case rel => exact ⟨4, by omega, by go_num, by rw [HS.out]; exact ho3, hb3⟩
        case measure => simp [intOf]

def IntsR (w : World) (l : List Int) (e : Ending) (w' : World) : Prop := ∃ A m c, e = .returned (.slice A m c) ∧ m ≤ c ∧ Rd cI 1 w' w.heap.size A m l ∧ Below w.heap.size w w'
def LksQ (w : World) (l : List Lk) (e : Ending) (w' : World) : Prop := ∃ A m c, e = .returned (.slice A m c) ∧ m ≤ c ∧ Rd cL 3 w' w.heap.size A m l ∧ Below w.heap.size w w'
def WtsR (w : World) (l : List Wt) (e : Ending) (w' : World) : Prop := ∃ A m c, e = .returned (.slice A m c) ∧ m ≤ c ∧ Rd cW 2 w' w.heap.size A m l ∧ Below w.heap.size w w'
section
variable (lo lo2 lo3 : Nat) (A A2 A3 : Option Addr) (n c n2 c2 n3 c3 : Nat) (t : List Nd) (sc : List (List Dd)) (ps : List Int) (w : World)
theorem RunValues_any (hr : Rd cN 3 w lo A n t) (hc : n ≤ c) (hr2 : Rds cD 2 w lo2 A2 n2 sc) (hr3 : Rd cI 1 w lo3 A3 n3 ps) (hT : Tb w) :
    Calls Tryd.prog 12 #[.slice A n c, .slice A2 n2 c2, .slice A3 n3 c3] w (IntsR w (rvF t sc ps)) := by
  go_enter Tryd.func12, Tryd.ntmps12
  go_wp2_with fail
  refine (runAll_any lo lo2 lo3 A A2 A3 n c n2 c2 n3 c3 t sc ps w hr hc hr2 hr3 hT).mono ?_
  rintro e w1 (⟨hP, v1, v2, v3, v4, rfl, ⟨⟨B1, k1, d1, rfl, hd1, hr1⟩, ⟨B2, k2, d2, rfl, hd2, _⟩, ⟨B3, k3, d3, rfl, hd3, _⟩, ⟨B4, k4, d4, rfl, hd4, _⟩⟩, hb1⟩ | ⟨hP, rfl, hb1⟩)
  · have HE : Hid (rvF t sc ps = (runM t sc ps).vals) := onR_t hP _
    have HB := Lib.hid (hb1.alloc hb1.size (.cells #[.slice B1 k1 d1, .slice B2 k2 d2, .slice B3 k3 d3, .slice B4 k4 d4] 40))
    have HR := Lib.hid (hr1.alloc (.cells #[.slice B1 k1 d1, .slice B2 k2 d2, .slice B3 k3 d3, .slice B4 k4 d4] 40))
    clear hP hr1
    go_wp2_with fail
    go_ret
    exact ⟨_, _, _, rfl, hd1, by rw [HE.out]; exact HR.out, HB.out⟩
  · have HE : Hid (rvF t sc ps = []) := onR_f hP _
    have HB := Lib.hid (hb1.alloc hb1.size (.cells #[.slice none 0 0, .slice none 0 0, .slice none 0 0, .slice none 0 0] 40))
    clear hP
    go_wp2_with fail
    go_ret
    exact ⟨_, _, _, rfl, Nat.le_refl _, by rw [HE.out]; exact Rd.nil, HB.out⟩
theorem RunOrder_any (hr : Rd cN 3 w lo A n t) (hc : n ≤ c) (hr2 : Rds cD 2 w lo2 A2 n2 sc) (hr3 : Rd cI 1 w lo3 A3 n3 ps) (hT : Tb w) :
    Calls Tryd.prog 8 #[.slice A n c, .slice A2 n2 c2, .slice A3 n3 c3] w (IntsR w (roF t sc ps)) := by
  go_enter Tryd.func8, Tryd.ntmps8
  go_wp2_with fail
  refine (runAll_any lo lo2 lo3 A A2 A3 n c n2 c2 n3 c3 t sc ps w hr hc hr2 hr3 hT).mono ?_
  rintro e w1 (⟨hP, v1, v2, v3, v4, rfl, ⟨⟨B1, k1, d1, rfl, hd1, _⟩, ⟨B2, k2, d2, rfl, hd2, _⟩, ⟨B3, k3, d3, rfl, hd3, hr1⟩, ⟨B4, k4, d4, rfl, hd4, _⟩⟩, hb1⟩ | ⟨hP, rfl, hb1⟩)
  · have HE : Hid (roF t sc ps = (runM t sc ps).fin) := onR_t hP _
    have HB := Lib.hid (hb1.alloc hb1.size (.cells #[.slice B1 k1 d1, .slice B2 k2 d2, .slice B3 k3 d3, .slice B4 k4 d4] 40))
    have HR := Lib.hid (hr1.alloc (.cells #[.slice B1 k1 d1, .slice B2 k2 d2, .slice B3 k3 d3, .slice B4 k4 d4] 40))
    clear hP hr1
    go_wp2_with fail
    go_ret
    exact ⟨_, _, _, rfl, hd3, by rw [HE.out]; exact HR.out, HB.out⟩
  · have HE : Hid (roF t sc ps = []) := onR_f hP _
    have HB := Lib.hid (hb1.alloc hb1.size (.cells #[.slice none 0 0, .slice none 0 0, .slice none 0 0, .slice none 0 0] 40))
    clear hP
    go_wp2_with fail
    go_ret
    exact ⟨_, _, _, rfl, Nat.le_refl _, by rw [HE.out]; exact Rd.nil, HB.out⟩
end

/-- A list of numbers lies in no block of slices. -/
theorem Rd.setNe {α : Type} {cs : α → List Value} {sz : Nat} {w : World} {lo n g i : Nat} {A : Option Addr} {l : List α} {u : Value} {cells : Array Value} {t : TypeId} (h : Rd cs sz w lo A n l) (hns : ∀ x : α, ∃ z, (cs x)[0]? = some (.int .i64 z))
    (hb : w.heap[g]? = some (.cells cells t (0, 0))) (hcs : ∀ (k : Nat) (z : Int), cells[k]? ≠ some (.int .i64 z)) : Rd cs sz (w.setCell ⟨g, i, none⟩ u) lo A n l := by
  refine ⟨h.1, h.2.1, fun hn => ?_⟩
  obtain ⟨b, o, e, hlo, hbl, hc⟩ := h.2.2 hn
  have hl0 : 0 < l.length := by rw [h.1]; exact hn
  have h0 : l[0]? = some (l[0]'hl0) := List.getElem?_eq_getElem hl0
  obtain ⟨z, hz⟩ := hns (l[0]'hl0)
  have hcell := hc 0 _ h0 0 _ hz
  have hne : b ≠ g := by
    rintro rfl
    rw [cell_of_row w b _ cells t (0, 0) hb] at hcell
    exact hcs _ _ hcell
  exact ⟨b, o, e, hlo, by simpa [World.setCell] using hbl, fun k x hx j v hv => (World.cell?_of_block (Below.heap_setCell _ _ _ _ (by show b ≠ g; exact hne))).trans (hc k x hx j v hv)⟩
theorem no_int (A1 A2 A3 A4 : Option Addr) (n1 n2 n3 n4 c1 c2 c3 c4 : Nat) : ∀ (k : Nat) (z : Int), (#[.slice A1 n1 c1, .slice A2 n2 c2, .slice A3 n3 c3, .slice A4 n4 c4] : Array Value)[k]? ≠ some (.int .i64 z) := by
  intro k z h
  match k, h with
  | 0, h | 1, h | 2, h | 3, h => simp at h
  | k + 4, h => simp at h
theorem MacR.setNe {w : World} {lo g i : Nat} {v1 v2 v3 v4 u : Value} {m : Mc} {cells : Array Value} {t : TypeId} (h : MacR w lo v1 v2 v3 v4 m) (hb : w.heap[g]? = some (.cells cells t (0, 0))) (hcs : ∀ (k : Nat) (z : Int), cells[k]? ≠ some (.int .i64 z)) : MacR (w.setCell ⟨g, i, none⟩ u) lo v1 v2 v3 v4 m := by
  obtain ⟨⟨A1, n1, c1, e1, h1, r1⟩, ⟨A2, n2, c2, e2, h2, r2⟩, ⟨A3, n3, c3, e3, h3, r3⟩, ⟨A4, n4, c4, e4, h4, r4⟩⟩ := h
  exact ⟨⟨A1, n1, c1, e1, h1, r1.setNe (fun x => ⟨x, rfl⟩) hb hcs⟩, ⟨A2, n2, c2, e2, h2, r2.setNe (fun x => ⟨x, rfl⟩) hb hcs⟩, ⟨A3, n3, c3, e3, h3, r3.setNe (fun x => ⟨x, rfl⟩) hb hcs⟩, ⟨A4, n4, c4, e4, h4, r4.setNe (fun x => ⟨x.who, rfl⟩) hb hcs⟩⟩
theorem MacR.set4 {w : World} {lo g : Nat} {v1 v2 v3 v4 : Value} {m : Mc} {A1 A2 A3 A4 B1 B2 B3 B4 : Option Addr} {n1 n2 n3 n4 c1 c2 c3 c4 k1 k2 k3 k4 d1 d2 d3 d4 : Nat} {t : TypeId} (h : MacR w lo v1 v2 v3 v4 m) (hb : w.heap[g]? = some (.cells #[.slice A1 n1 c1, .slice A2 n2 c2, .slice A3 n3 c3, .slice A4 n4 c4] t (0, 0))) :
    MacR ((((w.setCell ⟨g, 0, none⟩ (.slice B1 k1 d1)).setCell ⟨g, 1, none⟩ (.slice B2 k2 d2)).setCell ⟨g, 2, none⟩ (.slice B3 k3 d3)).setCell ⟨g, 3, none⟩ (.slice B4 k4 d4)) lo v1 v2 v3 v4 m ∧
    ((((w.setCell ⟨g, 0, none⟩ (.slice B1 k1 d1)).setCell ⟨g, 1, none⟩ (.slice B2 k2 d2)).setCell ⟨g, 2, none⟩ (.slice B3 k3 d3)).setCell ⟨g, 3, none⟩ (.slice B4 k4 d4)).heap[g]? = some (.cells #[.slice B1 k1 d1, .slice B2 k2 d2, .slice B3 k3 d3, .slice B4 k4 d4] t (0, 0)) := by
  have b1 := blk_set hb 0 (.slice B1 k1 d1)
  have b2 := blk_set b1 1 (.slice B2 k2 d2)
  have b3 := blk_set b2 2 (.slice B3 k3 d3)
  have b4 := blk_set b3 3 (.slice B4 k4 d4)
  exact ⟨(((h.setNe hb (no_int A1 A2 A3 A4 n1 n2 n3 n4 c1 c2 c3 c4)).setNe b1 (no_int B1 A2 A3 A4 k1 n2 n3 n4 d1 c2 c3 c4)).setNe b2 (no_int B1 B2 A3 A4 k1 k2 n3 n4 d1 d2 c3 c4)).setNe b3 (no_int B1 B2 B3 A4 k1 k2 k3 n4 d1 d2 d3 c4), b4.trans (by rfl)⟩

set_option maxRecDepth 100000 in
set_option maxHeartbeats 6400000 in
theorem run_t (lo lo2 lo3 : Nat) (A A2 A3 : Option Addr) (n c n2 c2 n3 c3 : Nat) (t : List Nd) (sc : List (List Dd)) (ps : List Int) (w : World) (hvr : VR t sc ps) (hr : Rd cN 3 w lo A n t) (hr2 : Rds cD 2 w lo2 A2 n2 sc) (hr3 : Rd cI 1 w lo3 A3 n3 ps) :
    Calls Tryd.prog 19 #[.slice A n c, .slice A2 n2 c2, .slice A3 n3 c3] w (PickO w w.heap.size (runM t sc ps)) := by
  have HL := Lib.hid hr.len
  have HL2 := Lib.hid hr2.len
  have HL3 := Lib.hid hr3.len
  have hn12 : n ≤ 12 := by have := hvr.1.2.1; have := HL.out; omega
  have hn24 : n2 ≤ 4 := by have := hvr.2.1.1; have := HL2.out; omega
  have hle3 := hr3.le
  have HVR := Lib.hid hvr
  have hbA := bel_alloc (Below.refl w.heap.size w) (.cells #[.slice none 0 0, .slice none 0 0, .slice none 0 0, .slice none 0 0] 54)
  have hRB := heap_alloc_new w (.cells #[.slice none 0 0, .slice none 0 0, .slice none 0 0, .slice none 0 0] 54)
  have HS := Lib.hid (start_t lo lo2 A A2 n c n2 c2 t sc (w.alloc (.cells #[.slice none 0 0, .slice none 0 0, .slice none 0 0, .slice none 0 0] 54)) (hr.alloc _) (hr2.alloc _) (by omega) (by omega))
  clear hvr
  go_enter Tryd.func19, Tryd.ntmps19
  go_wp2_with fail
  refine HS.out.mono ?_
  rintro e w1 ⟨v1, v2, v3, v4, rfl, hM1, hb1⟩
  obtain ⟨⟨B1, k1, d1, rfl, hd1, _⟩, ⟨B2, k2, d2, rfl, hd2, _⟩, ⟨B3, k3, d3, rfl, hd3, _⟩, ⟨B4, k4, d4, rfl, hd4, _⟩⟩ := id hM1
  have hB1 := bel_next hbA hb1
  have hs1 := hB1.size
  have hR1 := blk_below hRB hb1
  have hl1 := blk_lt hR1
  have hG2 := heap_alloc_new w1 (.cells #[.slice B1 k1 d1, .slice B4 k4 d4, .slice B2 k2 d2, .slice B3 k3 d3] 54)
  have hR2 := blk_alloc hR1 (.cells #[.slice B1 k1 d1, .slice B4 k4 d4, .slice B2 k2 d2, .slice B3 k3 d3] 54)
  have hM2 := (hM1.low (by simp : w.heap.size ≤ _)).below ((Below.refl w1.heap.size w1).alloc (Nat.le_refl _) (.cells #[.slice B1 k1 d1, .slice B4 k4 d4, .slice B2 k2 d2, .slice B3 k3 d3] 54))
  have hB2 := bel_alloc hB1 (.cells #[.slice B1 k1 d1, .slice B4 k4 d4, .slice B2 k2 d2, .slice B3 k3 d3] 54)
  clear hM1 hb1 hRB hbA HS
  go_wp2_with fail
  go_loopw [8] (fun i wr => ∃ (j : Nat) (C1 C2 C3 C4 : Option Addr) (q1 q2 q3 q4 e1 e2 e3 e4 : Nat), j ≤ n3 ∧ i = .int .i64 j ∧ MacR wr w.heap.size (.slice C1 q1 e1) (.slice C2 q2 e2) (.slice C3 q3 e3) (.slice C4 q4 e4) (runM t sc (ps.take j)) ∧
      wr.heap[w1.heap.size]? = some (.cells #[.slice C1 q1 e1, .slice C4 q4 e4, .slice C2 q2 e2, .slice C3 q3 e3] 54 (0, 0)) ∧ wr.heap[w.heap.size]? = some (.cells #[.slice none 0 0, .slice none 0 0, .slice none 0 0, .slice none 0 0] 54 (0, 0)) ∧ Below w.heap.size w wr) (fun i _ => n3 - (intOf i).toNat)
  case atStart => exact ⟨0, _, _, _, _, _, _, _, _, _, _, _, _, Nat.zero_le _, rfl, by rw [List.take_zero, runM_zero]; exact hM2, hG2, hR2, hB2⟩
  case round =>
    rename World => W1
    obtain ⟨j, C1, C2, C3, C4, q1, q2, q3, q4, e1, e2, e3, e4, hj, rfl, hM, hG, hR, hbl⟩ := hrel
    have hs := hbl.size
    by_cases hlt : j < n3
    case neg =>
      obtain rfl : j = n3 := by omega
      have hall : ps.take j = ps := List.take_of_length_le (by have := HL3.out; omega)
      rw [hall] at hM
      have f0 := blk_cell hG (i := 0) rfl
      have f1 := blk_cell hG (i := 1) rfl
      have f2 := blk_cell hG (i := 2) rfl
      have f3 := blk_cell hG (i := 3) rfl
      have y0 := blk_cell hR (i := 0) rfl
      have y1 := blk_cell hR (i := 1) rfl
      have y2 := blk_cell hR (i := 2) rfl
      have y3 := blk_cell hR (i := 3) rfl
      have yf := blk_free hR
      have HMM := Lib.hid (hM.set4 (B1 := C1) (B2 := C4) (B3 := C2) (B4 := C3) (k1 := q1) (k2 := q4) (k3 := q2) (k4 := q3) (d1 := e1) (d2 := e4) (d3 := e2) (d4 := e3) hR)
      clear hM hG hR hall
      go_wp2_with fail
      have r0 := blk_cell HMM.out.2 (i := 0) rfl
      have r1 := blk_cell HMM.out.2 (i := 1) rfl
      have r2 := blk_cell HMM.out.2 (i := 2) rfl
      have r3 := blk_cell HMM.out.2 (i := 3) rfl
      refine bodyPost_ret (v := .agg #[.slice C1 q1 e1, .slice C4 q4 e4, .slice C2 q2 e2, .slice C3 q3 e3]) (by simp [results, Tryd.results19, go_sem, r0, r1, r2, r3]) rfl ?_
      exact ⟨_, _, _, _, rfl, HMM.out.1, (((hbl.setCell (p := ⟨w.heap.size, 0, none⟩) (Nat.le_refl _) _).setCell (p := ⟨w.heap.size, 1, none⟩) (Nat.le_refl _) _).setCell (p := ⟨w.heap.size, 2, none⟩) (Nat.le_refl _) _).setCell (p := ⟨w.heap.size, 3, none⟩) (Nat.le_refl _) _⟩
    obtain ⟨b, o, p, rfl, _, hb, hx, p0⟩ := (hr3.below hbl).atI hlt
    have hp := HVR.out.2.2.2 p (List.mem_of_getElem? hx)
    obtain ⟨who, rfl⟩ := Int.eq_ofNat_of_zero_le hp.1
    have hinv : Inv t sc (runM t sc (ps.take j)) := Inv.runM HVR.out.1 HVR.out.2.1 fun p hp => HVR.out.2.2.2 p (List.mem_of_mem_take hp)
    have HP : Hid (∀ w' : World, Below W1.heap.size W1 w' → Calls Tryd.prog 44 #[.slice A n c, .slice A2 n2 c2, .agg #[.slice C1 q1 e1, .slice C4 q4 e4, .slice C2 q2 e2, .slice C3 q3 e3], .int .i64 (who : Int)] w' (PickO w' w.heap.size (pickM t sc (runM t sc (ps.take j)) who))) := fun w' hb' =>
      pickS_t w.heap.size lo lo2 _ _ _ _ _ t sc who A A2 n c n2 c2 w' HVR.out.1 HVR.out.2.1 hinv (by have := hp.2; omega) (hM.below hb') (by have := hb'.size; omega) ((hr.below hbl).below hb') ((hr2.below hbl).below hb')
    have HSN := Lib.hid (runM_snoc (t := t) (sc := sc) hx)
    have f0 := blk_cell hG (i := 0) rfl
    have f1 := blk_cell hG (i := 1) rfl
    have f2 := blk_cell hG (i := 2) rfl
    have f3 := blk_cell hG (i := 3) rfl
    have hne : Hid (w.heap.size ≠ w1.heap.size) := by show _ ≠ _; omega
    have HG := Lib.hid hG
    have HR := Lib.hid hR
    clear hM hx hinv hG hR hp
    go_wp2_with fail
    go_region_with (first | (go_simp; go_at_call 44; refine (HP.out W1.drew (Below.refl W1.heap.size W1).drew).mono ?_; rintro e w5 ⟨u1, u2, u3, u4, rfl, hM5, hb5⟩; obtain ⟨⟨D1, r1, s1, rfl, hs1', _⟩, ⟨D2, r2, s2, rfl, hs2', _⟩, ⟨D3, r3, s3, rfl, hs3', _⟩, ⟨D4, r4, s4, rfl, hs4', _⟩⟩ := id hM5; have hG5 := blk_below (w := W1.drew) HG.out hb5; have z0 := blk_cell hG5 (i := 0) rfl; have z1 := blk_cell hG5 (i := 1) rfl; have z2 := blk_cell hG5 (i := 2) rfl; have z3 := blk_cell hG5 (i := 3) rfl; have zf := blk_free hG5))
    all_goals (
      have hR5 := blk_below (w := W1.drew) HR.out hb5
      have hB5 := bel_next hbl.drew hb5
      have h4 := hM5.set4 (B1 := D1) (B2 := D4) (B3 := D2) (B4 := D3) (k1 := r1) (k2 := r4) (k3 := r2) (k4 := r3) (d1 := s1) (d2 := s4) (d3 := s2) (d4 := s3) hG5
      have HM' : Hid (MacR ((((w5.setCell ⟨w1.heap.size, 0, none⟩ (.slice D1 r1 s1)).setCell ⟨w1.heap.size, 1, none⟩ (.slice D4 r4 s4)).setCell ⟨w1.heap.size, 2, none⟩ (.slice D2 r2 s2)).setCell ⟨w1.heap.size, 3, none⟩ (.slice D3 r3 s3)) w.heap.size (.slice D1 r1 s1) (.slice D2 r2 s2) (.slice D3 r3 s3) (.slice D4 r4 s4) (runM t sc (ps.take (j + 1)))) := by
        show MacR _ _ _ _ _ _ _
        rw [HSN.out, Int.toNat_natCast]; exact h4.1
      have HG' := Lib.hid h4.2
      have HR' := Lib.hid (blk_setne (blk_setne (blk_setne (blk_setne hR5 hne.out 0 (.slice D1 r1 s1)) hne.out 1 (.slice D4 r4 s4)) hne.out 2 (.slice D2 r2 s2)) hne.out 3 (.slice D3 r3 s3))
      have HB' := Lib.hid ((((hB5.setCell (p := ⟨w1.heap.size, 0, none⟩) hs1 (.slice D1 r1 s1)).setCell (p := ⟨w1.heap.size, 1, none⟩) hs1 (.slice D4 r4 s4)).setCell (p := ⟨w1.heap.size, 2, none⟩) hs1 (.slice D2 r2 s2)).setCell (p := ⟨w1.heap.size, 3, none⟩) hs1 (.slice D3 r3 s3))
      clear h4 hR5 hG5 hM5 z0 z1 z2 z3 zf
      go_wp2_with fail
      go_roundw
      case rel => exact ⟨j + 1, D1, D2, D3, D4, r1, r2, r3, r4, s1, s2, s3, s4, by omega, by go_num, HM'.out, HG'.out, HR'.out, HB'.out⟩
      case measure => simp [intOf]; omega)
theorem mfld (A1 A2 A3 A4 : Option Addr) (n1 n2 n3 n4 c1 c2 c3 c4 : Nat) (w : World) : (Instr.field 54 (.agg #[.slice A1 n1 c1, .slice A2 n2 c2, .slice A3 n3 c3, .slice A4 n4 c4]) 0).run Tryd.prog w = .ok (.slice A1 n1 c1) w ∧
    (Instr.field 54 (.agg #[.slice A1 n1 c1, .slice A2 n2 c2, .slice A3 n3 c3, .slice A4 n4 c4]) 1).run Tryd.prog w = .ok (.slice A2 n2 c2) w ∧ (Instr.field 54 (.agg #[.slice A1 n1 c1, .slice A2 n2 c2, .slice A3 n3 c3, .slice A4 n4 c4]) 3).run Tryd.prog w = .ok (.slice A4 n4 c4) w :=
  ⟨by kernel_rfl, by kernel_rfl, by kernel_rfl⟩
section
variable (lo lo2 lo3 : Nat) (A A2 A3 : Option Addr) (n c n2 c2 n3 c3 : Nat) (t : List Nd) (sc : List (List Dd)) (ps : List Int) (w : World)
end

/-- The drawn arguments lie in a world. -/
structure RA (w : World) (A : Option Addr) (n c : Nat) (t : List Nd) (A2 : Option Addr) (m c2 : Nat) (sc : List (List Dd)) (A3 : Option Addr) (k c3 : Nat) (ps : List Int) : Prop where
  hc : n ≤ c
  rt : Rd cN 3 w 0 A n t
  hn : n ≤ 13
  nm : NmB t
  hm : m ≤ c2
  rsc : Rds cD 2 w 0 A2 m sc
  hm5 : m ≤ 5
  hk : k ≤ c3
  rps : Rd cI 1 w 0 A3 k ps
  hk17 : k ≤ 17
  tb : Tb w
section
variable {w w' : World} {A : Option Addr} {n c : Nat} {t : List Nd} {A2 : Option Addr} {m c2 : Nat} {sc : List (List Dd)} {A3 : Option Addr} {k c3 : Nat} {ps : List Int}
theorem RA.below (h : RA w A n c t A2 m c2 sc A3 k c3 ps) (hb : Below w.heap.size w w') : RA w' A n c t A2 m c2 sc A3 k c3 ps :=
  ⟨h.hc, h.rt.below hb, h.hn, h.nm, h.hm, h.rsc.below hb, h.hm5, h.hk, h.rps.below hb, h.hk17, h.tb.below hb⟩
theorem RA.rv (h : RA w A n c t A2 m c2 sc A3 k c3 ps) : Calls Tryd.prog 12 #[.slice A n c, .slice A2 m c2, .slice A3 k c3] w (IntsR w (rvF t sc ps)) := RunValues_any 0 0 0 A A2 A3 n c m c2 k c3 t sc ps w h.rt h.hc h.rsc h.rps h.tb
theorem RA.ro (h : RA w A n c t A2 m c2 sc A3 k c3 ps) : Calls Tryd.prog 8 #[.slice A n c, .slice A2 m c2, .slice A3 k c3] w (IntsR w (roF t sc ps)) := RunOrder_any 0 0 0 A A2 A3 n c m c2 k c3 t sc ps w h.rt h.hc h.rsc h.rps h.tb
theorem RunD.ra {w0 : World} {e : Ending} (hT : Tb w0) (h : RunD w0 e w) : ∃ (A : Option Addr) (n c : Nat) (t : List Nd) (A2 : Option Addr) (m c2 : Nat) (sc : List (List Dd)) (A3 : Option Addr) (k c3 : Nat) (ps : List Int), e = .returned (.tuple #[.slice A n c, .slice A2 m c2, .slice A3 k c3]) ∧ RA w A n c t A2 m c2 sc A3 k c3 ps ∧ Below w0.heap.size w0 w := by
  obtain ⟨A, n, c, t, A2, m, c2, sc, A3, k, c3, ps, rfl, h1, h2, h3, h4, h5, h6, h7, h8, h9, h10, hb⟩ := h
  exact ⟨A, n, c, t, A2, m, c2, sc, A3, k, c3, ps, rfl, ⟨h1, h2.low (Nat.zero_le _), h3, h4, h5, h6.low (Nat.zero_le _), h7, h8, h9.low (Nat.zero_le _), h10, hT.below hb⟩, hb⟩
end
/-- Who holds a lock behind a run was picked. -/
theorem rlF_who {t : List Nd} {sc : List (List Dd)} {ps : List Int} {x : Lk} (hx : x ∈ rlF t sc ps) : x.who ∈ ps := by
  unfold rlF at hx
  by_cases h : VR t sc ps
  · rw [onR_t h] at hx
    have hI := h.inv
    have h1 := heldF_mem hI.tab hx
    have h2 := (hI.tab.ask hx).2.2
    obtain ⟨i, e1, hi, h3, _⟩ := hI.held x.who x.node (by omega)
    have := h.cnt i
    rw [e1]
    exact cntF_pos ps (by omega)
  · rw [onR_f h] at hx; cases hx
theorem rlF_VTb {t : List Nd} {sc : List (List Dd)} {ps : List Int} : VTb (rlF t sc ps) := by
  unfold rlF
  by_cases h : VR t sc ps
  · rw [onR_t h]; exact h.inv.tab
  · rw [onR_f h]; exact VTb_nil
theorem rlF_fine {t : List Nd} {sc : List (List Dd)} {ps : List Int} (a : Int) : Fine t (rlF t sc ps) a := by
  unfold rlF
  by_cases h : VR t sc ps
  · rw [onR_t h]; exact h.inv.fine a
  · rw [onR_f h]; intro k x _ _; show strF 0 (needF 0) = true; decide

theorem Own.pop {w : World} {e : TypeId} {base m : Nat} {v : Value} {l : List Int} {x : Int} (h : Own cI 1 e w base v (l ++ [x])) (hv : ∃ g cap, v = .slice (some ⟨g, 0, none⟩) m cap) : ∃ g cap, v = .slice (some ⟨g, 0, none⟩) m cap ∧ m = l.length + 1 ∧ m ≤ cap ∧ Own cI 1 e w base (.slice (some ⟨g, 0, none⟩) (m - 1) cap) l := by
  obtain ⟨g, cap, rfl⟩ := hv
  rcases h.2 with ⟨h1, _⟩ | ⟨g2, cap2, cur, h1, h2, h3, h4, h5, h6, h7⟩
  · simp at h1
  · simp only [Value.slice.injEq, Option.some.injEq, Addr.mk.injEq, and_true] at h1
    obtain ⟨rfl, hm, rfl⟩ := h1
    simp only [List.length_append, List.length_cons, List.length_nil] at hm h4 h7
    refine ⟨_, _, rfl, by omega, by omega, by simp [flat_len (cs := cI) (sz := 1) (fun _ => rfl)], .inr ⟨g, cap, cur, ?_, h2, h3, by omega, h5, h6, ?_⟩⟩
    · rw [show m - 1 = l.length by omega]
    · have : cur.toList.take (l.length * 1) = (cur.toList.take ((l.length + 1) * 1)).take (l.length * 1) := by rw [List.take_take]; congr 1; omega
      rw [this, h7, List.flatMap_append]
      rw [List.take_append_of_le_length (by rw [flat_len (cs := cI) (sz := 1) (fun _ => rfl)]; exact Nat.le_refl _), List.take_of_length_le (by rw [flat_len (cs := cI) (sz := 1) (fun _ => rfl)]; exact Nat.le_refl _)]
theorem Own.pop' {w : World} {e : TypeId} {base m g cap : Nat} {l : List Int} {x : Int} (h : Own cI 1 e w base (.slice (some ⟨g, 0, none⟩) m cap) (l ++ [x])) : m = l.length + 1 ∧ m ≤ cap ∧ Own cI 1 e w base (.slice (some ⟨g, 0, none⟩) (m - 1) cap) l := by
  obtain ⟨g', cap', h1, h2, h3, h4⟩ := h.pop ⟨_, _, rfl⟩
  simp only [Value.slice.injEq, Option.some.injEq, Addr.mk.injEq, and_true, true_and] at h1
  obtain ⟨rfl, rfl⟩ := h1
  exact ⟨h2, h3, h4⟩
/-- What holds of the search: what is seen and what is still to be looked at. -/
structure Srch (l : List Wt) (who : Int) (g : Int → Bool) (S : List Int) : Prop where
  snd : ∀ x, g x = true → Rch l who x
  stk : ∀ x ∈ S, x = who ∨ g x = true
  cls : ∀ e ∈ l, (e.who = who ∨ g e.who = true) → e.who ∉ S → g e.tgt = true
structure Srch1 (l : List Wt) (who : Int) (a : Int) (k : Nat) (g : Int → Bool) (S : List Int) : Prop where
  snd : ∀ x, g x = true → Rch l who x
  top : a = who ∨ g a = true
  stk : ∀ x ∈ S, x = who ∨ g x = true
  cls : ∀ (i : Nat) (e : Wt), l[i]? = some e → (e.who = who ∨ g e.who = true) → e.who ∉ S → (e.who ≠ a ∨ i < k) → g e.tgt = true
theorem Srch.start {l : List Wt} {who : Int} : Srch l who (fun _ => false) [who] := ⟨fun _ h => (by cases h), fun x hx => (by simp at hx; exact .inl hx), fun e _ h hn => (by
  rcases h with h | h
  · exact absurd (by rw [h]; exact List.mem_cons_self ..) hn
  · cases h)⟩
theorem Srch.pop {l : List Wt} {who a : Int} {g : Int → Bool} {S : List Int} (h : Srch l who g (S ++ [a])) : Srch1 l who a 0 g S :=
  ⟨h.snd, h.stk a (by simp), fun x hx => h.stk x (by simp [hx]), fun i e he h1 h2 h3 => h.cls e (List.mem_of_getElem? he) h1 (by
    rcases h3 with h3 | h3
    · simp [h2, h3]
    · omega)⟩
theorem Srch1.done {l : List Wt} {who a : Int} {g : Int → Bool} {S : List Int} {n : Nat} (hn : l.length = n) (h : Srch1 l who a n g S) : Srch l who g S :=
  ⟨h.snd, h.stk, fun e he h1 h2 => by
    obtain ⟨i, hi⟩ := List.mem_iff_getElem?.1 he
    exact h.cls i e hi h1 h2 (.inr (by have := (List.getElem?_eq_some_iff.1 hi).1; omega))⟩
theorem Srch1.skip {l : List Wt} {who a : Int} {g : Int → Bool} {S : List Int} {k : Nat} {e : Wt} (h : Srch1 l who a k g S) (he : l[k]? = some e) (hs : e.who ≠ a ∨ g e.tgt = true) : Srch1 l who a (k + 1) g S :=
  ⟨h.snd, h.top, h.stk, fun i x hx h1 h2 h3 => by
    by_cases e1 : i = k
    · subst e1; rw [he] at hx; injection hx with hx; subst hx
      rcases hs with hs | hs
      · exact h.cls i _ he h1 h2 (.inl hs)
      · exact hs
    · exact h.cls i x hx h1 h2 (h3.imp id fun h => by omega)⟩
theorem Srch1.push {l : List Wt} {who a : Int} {g : Int → Bool} {S : List Int} {k : Nat} {e : Wt} (h : Srch1 l who a k g S) (he : l[k]? = some e) (ha : e.who = a) : Srch1 l who a (k + 1) (fun x => decide (e.tgt = x) || g x) (S ++ [e.tgt]) :=
  ⟨fun x hx => by
    simp only [Bool.or_eq_true, decide_eq_true_eq] at hx
    rcases hx with rfl | hx
    · rcases h.top with h1 | h1
      · have := Rch.one e (List.mem_of_getElem? he)
        rw [ha, h1] at this; exact this
      · exact Rch.more e who (List.mem_of_getElem? he) (by rw [ha]; exact h.snd a h1)
    · exact h.snd x hx, h.top.imp id fun h => by simp [h], fun x hx => by
      rcases List.mem_append.1 hx with hx | hx
      · exact (h.stk x hx).imp id fun h => by simp [h]
      · simp at hx; exact .inr (by simp [hx]), fun i x hx h1 h2 h3 => by
      simp only [List.mem_append, List.mem_singleton, not_or] at h2
      have h1' : x.who = who ∨ g x.who = true := h1.imp id fun h => by
        simp only [Bool.or_eq_true, decide_eq_true_eq] at h
        exact h.resolve_left fun e => h2.2 e.symm
      by_cases e1 : i = k
      · subst e1; rw [he] at hx; injection hx with hx; subst hx; simp
      · have := h.cls i x hx h1' h2.1 (h3.imp id fun h => by omega)
        simp [this]⟩
theorem Srch.all {l : List Wt} {who : Int} {g : Int → Bool} (h : Srch l who g []) (x : Int) : g x = true ↔ Rch l who x := by
  refine ⟨h.snd x, fun hr => ?_⟩
  have hg : ∀ a b, Rch l a b → a = who → g b = true := by
    intro a b hr
    induction hr with
    | one e he => exact fun ha => h.cls e he (.inl ha) (by simp)
    | more e a he _ ih => exact fun ha => h.cls e he (.inr (ih ha)) (by simp)
  exact hg _ _ hr rfl
def unF (g : Int → Bool) : Nat := (if g 0 then 0 else 1) + (if g 1 then 0 else 1) + (if g 2 then 0 else 1) + (if g 3 then 0 else 1)
theorem unF_push {g : Int → Bool} {k : Int} (h0 : 0 ≤ k) (h3 : k ≤ 3) (h : g k = false) : unF (fun x => decide (k = x) || g x) + 1 = unF g := by
  obtain rfl | rfl | rfl | rfl : k = 0 ∨ k = 1 ∨ k = 2 ∨ k = 3 := by omega
  all_goals (unfold unF; simp [h] <;> omega)
theorem marks_at (g : Int → Bool) {k : Nat} (hlt : k < 4) : (#[.bool (g 0), .bool (g 1), .bool (g 2), .bool (g 3)] : Array Value)[k]? = some (.bool (g k)) := by
  match k, hlt with
  | 0, _ => rfl
  | 1, _ => rfl
  | 2, _ => rfl
  | 3, _ => rfl
theorem marks_set (g : Int → Bool) {k : Nat} (hlt : k < 4) : (#[.bool (g 0), .bool (g 1), .bool (g 2), .bool (g 3)] : Array Value).setIfInBounds k (.bool true) =
    #[.bool (decide ((k : Int) = 0) || g 0), .bool (decide ((k : Int) = 1) || g 1), .bool (decide ((k : Int) = 2) || g 2), .bool (decide ((k : Int) = 3) || g 3)] := by
  match k, hlt with
  | 0, _ => rfl
  | 1, _ => rfl
  | 2, _ => rfl
  | 3, _ => rfl
theorem ValidWaits_t (lo : Nat) (A : Option Addr) (n c : Nat) (l : List Wt) (w : World) (hr : Rd cW 2 w lo A n l) (hv : VW l) :
    Calls Tryd.prog 49 #[.slice A n c] w fun e w' => e = .returned (.bool true) ∧ Below w.heap.size w w' := by
  have HL := Lib.hid hr.len
  have HV := Lib.hid hv.2
  have hn12 : n ≤ 12 := by have := hv.1; have := HL.out; omega
  have h12 : ¬ (12 : Int) < (n : Int) := by omega
  clear hv
  go_enter Tryd.func49, Tryd.ntmps49
  go_wp2_with fail
  go_loopw [10] (fun i wr => ∃ k : Nat, k ≤ n ∧ i = .int .i64 k ∧ Below w.heap.size w wr) (fun i _ => n - (intOf i).toNat)
  case atStart => exact ⟨0, Nat.zero_le _, rfl, Below.refl _ _⟩
  case round =>
    rename World => W1
    obtain ⟨k, hk, rfl, hbl⟩ := hrel
    have hs := hbl.size
    by_cases hlt : k < n
    case neg =>
      go_wp2_with fail
      go_ret
      exact ⟨rfl, hbl⟩
    obtain ⟨b, o, x, rfl, _, hb, hx, g0, g1⟩ := (hr.below hbl).atW hlt
    obtain ⟨⟨a1, a2⟩, ⟨b1, b2⟩, hne⟩ := HV.out x (List.mem_of_getElem? hx)
    have hne' : (x.who == x.tgt) = false := by simpa using hne
    clear hx hr hne
    go_wp2_with (go_at_call 28; refine (within_t _ _ _ _ (by assumption) (by assumption)).mono ?_; rintro e w3 ⟨rfl, rfl⟩)
    go_roundw
    case rel => exact ⟨k + 1, by omega, by go_num, hbl.alloc hs _⟩
    case measure => simp [intOf]; omega
/-- The unseen of a block of marks. -/
def unW (b : Nat) (w : World) : Nat := match w.heap[b]? with
  | some (.cells cs _ _) => cs.toList.countP fun v => match v with | .bool false => true | _ => false
  | _ => 0
theorem unW_eq {b : Nat} {w : World} {g : Int → Bool} {t : TypeId} (h : w.heap[b]? = some (.cells #[.bool (g 0), .bool (g 1), .bool (g 2), .bool (g 3)] t (0, 0))) : unW b w = unF g := by
  unfold unW unF
  rw [h]
  simp only
  cases g 0 <;> cases g 1 <;> cases g 2 <;> cases g 3 <;> rfl
theorem Rch.ends {l : List Wt} (hv : VW l) {a b : Int} (h : Rch l a b) : 0 ≤ b ∧ b ≤ 3 := by
  cases h with
  | one x hx => exact (hv.2 x hx).2.1
  | more x _ hx _ => exact (hv.2 x hx).2.1
set_option maxHeartbeats 3200000 in
set_option maxRecDepth 100000 in
theorem WaitsFor_t (lo : Nat) (A : Option Addr) (n c : Nat) (l : List Wt) (who : Int) (w : World) (hr : Rd cW 2 w lo A n l) (hv : VW l) (_ : 0 ≤ who ∧ who ≤ 3) :
    Calls Tryd.prog 26 #[.slice A n c, .int .i64 who] w fun e w' => ∃ f : Int → Bool, (∀ x, f x = true ↔ Rch l who x) ∧ IntsP w (markL f) e w' := by
  have HL := Lib.hid hr.len
  have HV := Lib.hid hv
  have hn12 : n ≤ 12 := by have := hv.1; have := HL.out; omega
  have HC := Lib.hid (ValidWaits_t lo A n c l w hr hv)
  clear hv
  go_enter Tryd.func26, Tryd.ntmps26
  go_wp2_with fail
  refine HC.out.mono ?_
  rintro e w1 ⟨rfl, hb1⟩
  have hr1 := hr.below hb1
  have hs1 := hb1.size
  clear hr
  have hS0 := heap_alloc_new w1 (.cells #[.bool false, .bool false, .bool false, .bool false] 44)
  have hS1 := blk_alloc hS0 (.cells #[.int .i64 who] 3)
  have ho0 : Own cI 1 3 ((w1.alloc (.cells #[.bool false, .bool false, .bool false, .bool false] 44)).alloc (.cells #[.int .i64 who] 3)) (w1.heap.size + 1) (.slice (some ⟨w1.heap.size + 1, 0, none⟩) 1 1) [who] := by
    have := Own.lit (cs := cI) (sz := 1) (e := 3) (w1.alloc (.cells #[.bool false, .bool false, .bool false, .bool false] 44)) #[.int .i64 who] [who] (by simp) (fun _ => rfl) rfl
    rw [World.size_alloc] at this; exact this
  have hbA := ((Below.refl w1.heap.size w1).alloc (Nat.le_refl _) (.cells #[.bool false, .bool false, .bool false, .bool false] 44)).alloc (by simp) (.cells #[.int .i64 who] 3)
  clear hS0
  go_wp2_with fail
  go_loopw [6] (fun v wr => ∃ (g : Int → Bool) (S : List Int) (q m cap : Nat), v = .slice (some ⟨q, 0, none⟩) m cap ∧ Own cI 1 3 wr (w1.heap.size + 1) v S ∧ S.length + unF g ≤ 5 ∧ Below w1.heap.size w1 wr ∧
      wr.heap[w1.heap.size]? = some (.cells #[.bool (g 0), .bool (g 1), .bool (g 2), .bool (g 3)] 44 (0, 0)) ∧ Srch l who g S) (fun v wr => 2 * unW w1.heap.size wr + lenV v)
  case atStart => exact ⟨fun _ => false, [who], _, _, _, rfl, ho0, by simp [unF], hbA, hS1, Srch.start⟩
  case round =>
    rename World => W1
    obtain ⟨g, S, q, m, cap, rfl, ho, hlen, hbl, hG, hsr⟩ := hrel
    have hs := hbl.size
    have hm := ho.lenV
    simp only [Go.Proofs.YtijabengfdckkaaDoor.lenV] at hm
    rcases S.eq_nil_or_concat with hS | ⟨S', a, hS⟩
    · subst hS
      simp only [List.length_nil] at hm
      subst hm
      have HA := Lib.hid hsr.all
      have e0 := blk_cell (i := 0) hG rfl
      have e1 := blk_cell (i := 1) hG rfl
      have e2 := blk_cell (i := 2) hG rfl
      have e3 := blk_cell (i := 3) hG rfl
      clear hsr hG ho
      go_wp2_with fail
      refine (marked_any g _).mono ?_
      rintro e w2 ⟨v, rfl, ho2, hb2⟩
      have hB := hb1.trans ((hbl.trans (hb2.mono hs)).mono hs1)
      go_wp2_with fail
      go_ret
      exact ⟨g, HA.out, _, rfl, ho2.low (Nat.le_trans hs1 hs), hB⟩
    rw [List.concat_eq_append] at hS
    subst hS
    obtain ⟨hm1, hmc, hpop⟩ := ho.pop'
    obtain ⟨_, hrd⟩ := ho.rds (fun _ => rfl) (by omega)
    obtain ⟨k, hk⟩ : ∃ k, k = S'.length := ⟨_, rfl⟩
    rw [← hk] at hm1
    subst hm1
    obtain ⟨b', o', x, hA', _, _, hx, g0⟩ := hrd.atI (k := k) (by omega)
    simp only [Option.some.injEq, Addr.mk.injEq, and_true] at hA'
    obtain ⟨rfl, rfl⟩ := hA'
    have hxa : x = a := by
      rw [hk] at hx
      simpa using hx.symm
    subst hxa
    simp only [Nat.zero_add] at g0
    have HS1 := Lib.hid hsr.pop
    have HG := Lib.hid hG
    have HK := Lib.hid hk
    have hk4 : k ≤ 4 := by simp only [List.length_append, List.length_cons, List.length_nil] at hlen; omega
    have HLN : Hid (S'.length + unF g ≤ 4) := by simp only [List.length_append, List.length_cons, List.length_nil] at hlen; unfold Hid; omega
    clear hsr hG hk hx hrd hlen hm ho
    have HPOP := Lib.hid hpop
    clear hpop
    go_wp2_with fail
    go_loopw [6, 31] (fun v i wr => ∃ (j : Nat) (g' : Int → Bool) (S : List Int) (q m cap : Nat), j ≤ n ∧ i = .int .i64 j ∧ v = .slice (some ⟨q, 0, none⟩) m cap ∧ Own cI 1 3 wr (w1.heap.size + 1) v S ∧ S.length + unF g' ≤ 4 ∧ 2 * unF g' + S.length ≤ 2 * unF g + k ∧ Below w1.heap.size w1 wr ∧
      wr.heap[w1.heap.size]? = some (.cells #[.bool (g' 0), .bool (g' 1), .bool (g' 2), .bool (g' 3)] 44 (0, 0)) ∧ Srch1 l who x j g' S) (fun _ i _ => n - (intOf i).toNat)
    case atStart => exact ⟨0, g, S', q, k, cap, Nat.zero_le _, rfl, rfl, HPOP.out, HLN.out, by rw [HK.out]; exact Nat.le_refl _, hbl, HG.out, HS1.out⟩
    case round =>
      rename World => W2
      obtain ⟨j, g', S, q', m', cap', hj, rfl, rfl, ho, hl4, hms, hbl2, hG2, hsr⟩ := hrel
      have hs2 := hbl2.size
      by_cases hlt : j < n
      case neg =>
        obtain rfl : j = n := by omega
        have HD := Lib.hid (hsr.done HL.out)
        have HM := Lib.hid ho.lenV
        have HG2 := Lib.hid hG2
        clear hsr hG2
        go_wp2_with fail
        go_roundw
        case rel => exact ⟨g', S, q', m', cap', rfl, ho, by omega, hbl2, HG2.out, HD.out⟩
        case measure =>
          have h1 := HM.out
          rw [unW_eq HG2.out, unW_eq HG.out, h1]
          simp only [Go.Proofs.YtijabengfdckkaaDoor.lenV]
          omega
      obtain ⟨b, o, e, rfl, _, hb, hx, c0, c1⟩ := (hr1.below hbl2).atW hlt
      obtain ⟨_, ⟨t0, t3⟩, _⟩ := HV.out.2 e (List.mem_of_getElem? hx)
      obtain ⟨ew, et⟩ := e
      simp only at t0 t3 c0 c1
      obtain ⟨kt, rfl⟩ := Int.eq_ofNat_of_zero_le t0
      have hkt : kt < 4 := by omega
      have hkt' : (kt : Int) < 4 := by omega
      have HX := Lib.hid hx
      have HSR := Lib.hid hsr
      have HB3 := Lib.hid (hbl2.alloc hs2 (.cells #[.int .i64 ew, .int .i64 kt] 36))
      have hG3 := blk_alloc hG2 (.cells #[.int .i64 ew, .int .i64 kt] 36)
      have HO3 := Lib.hid (ho.alloc (.cells #[.int .i64 ew, .int .i64 kt] 36))
      have HQ : Hid (w1.heap.size + 1 ≤ q' ∧ q' < W2.heap.size) := ho.blk _ rfl
      have z0 := blk_free hG3 kt
      have z1 := blk_cell hG3 (marks_at g' hkt)
      have HG3 := Lib.hid hG3
      clear hx hsr hG2 hG3 ho
      by_cases e1 : ew = x
      case neg =>
        have e1' : (ew == x) = false := by simpa using e1
        have HN := Lib.hid (HSR.out.skip HX.out (.inl e1))
        clear e1
        go_wp2_with fail
        go_roundw
        case rel => exact ⟨j + 1, g', S, q', m', cap', by omega, by go_num, rfl, HO3.out, hl4, hms, HB3.out, HG3.out, HN.out⟩
        case measure => simp [intOf]; omega
      subst e1
      cases hgt : g' kt with
      | true =>
        rw [hgt] at z1
        have HN := Lib.hid (HSR.out.skip HX.out (.inr hgt))
        clear hgt
        go_wp2_with fail
        go_roundw
        case rel => exact ⟨j + 1, g', S, q', m', cap', by omega, by go_num, rfl, HO3.out, hl4, hms, HB3.out, HG3.out, HN.out⟩
        case measure => simp [intOf]; omega
      | false =>
        rw [hgt] at z1
        have HN := Lib.hid (HSR.out.push HX.out rfl)
        have HU := Lib.hid (unF_push t0 t3 hgt)
        have HS := Lib.hid (marks_set g' hkt)
        have ho4 := HO3.out.keep (w' := (W2.alloc (.cells #[.int .i64 ew, .int .i64 kt] 36)).setCell ⟨w1.heap.size, kt, none⟩ (.bool true)) fun b h1 h2 h3 => Below.heap_setCell _ _ _ _ (by show b ≠ w1.heap.size; omega)
        have HB4 := Lib.hid ((HB3.out.setCell (p := ⟨w1.heap.size, kt, none⟩) (Nat.le_refl _) (.bool true)).alloc (by simp; omega) (.cells #[.int .i64 kt] 3))
        have HG4 := Lib.hid (blk_alloc (blk_set HG3.out kt (.bool true)) (.cells #[.int .i64 kt] 3))
        have d1 : ((W2.alloc (.cells #[.int .i64 ew, .int .i64 kt] 36)).setCell ⟨w1.heap.size, kt, none⟩ (.bool true)).cell? ⟨W2.heap.size, 1, none⟩ = some (.int .i64 kt) :=
          (World.cell?_of_block (Below.heap_setCell _ _ _ _ (by show W2.heap.size ≠ w1.heap.size; have := HQ.out; omega))).trans (by simp [World.cell?_alloc_new])
        clear hgt
        go_wp2_with (at_builtin; refine wpList_append_rd elI _ rfl (.tmp 49) (.tmp 52) rfl rfl (ho4.alloc _) rfl (Rd_oneg _ #[.int .i64 kt] 3 (kt : Int) rfl (W2.heap.size + 1) (by simp)) (by omega) (by simp; omega) ?_; intro v5 w5 ho5 hg5 _)
        have HB5 := Lib.hid (below_own HB4.out (ho4.alloc (.cells #[.int .i64 kt] 3)) hg5 (by omega) (by simp; omega))
        have HG5 := Lib.hid ((hg5.block w1.heap.size (by simp; omega) (fun h => (by have h2 : w1.heap.size = q' := Option.some.inj h; have := HQ.out.1; omega))).trans HG4.out)
        obtain ⟨q5, m5, cap5, rfl, _⟩ := ho5.form (by simp)
        go_roundw
        case rel =>
          have hu := HU.out
          exact ⟨j + 1, _, _, q5, m5, cap5, by omega, by go_num, rfl, ho5, by simp only [List.length_append, List.length_cons, List.length_nil]; omega, by simp only [List.length_append, List.length_cons, List.length_nil]; omega, HB5.out, by rw [HG5.out, HS.out], HN.out⟩
        case measure => simp [intOf]; omega

theorem mark_has {f : Int → Bool} {k : Nat} (hk : k < 4) : decide ((k : Int) ∈ markL f) = f k := by
  have h4 : (k : Int) ∈ ([0, 1, 2, 3] : List Int) := by simp; omega
  unfold markL
  cases h : f k with
  | true => exact decide_eq_true (List.mem_filter.2 ⟨h4, h⟩)
  | false => exact decide_eq_false fun hm => by have := (List.mem_filter.1 hm).2; rw [h] at this; cases this
theorem marks_setb (g : Int → Bool) {k : Nat} (hlt : k < 4) (b : Bool) : (#[.bool (g 0), .bool (g 1), .bool (g 2), .bool (g 3)] : Array Value).setIfInBounds k (.bool b) =
    #[.bool ((fun a : Int => if a = k then b else g a) 0), .bool ((fun a : Int => if a = k then b else g a) 1), .bool ((fun a : Int => if a = k then b else g a) 2), .bool ((fun a : Int => if a = k then b else g a) 3)] := by
  match k, hlt with
  | 0, _ => rfl
  | 1, _ => rfl
  | 2, _ => rfl
  | 3, _ => rfl
set_option maxHeartbeats 1600000 in
theorem DeadlockOf_t (lo : Nat) (A : Option Addr) (n c : Nat) (l : List Wt) (w : World) (hr : Rd cW 2 w lo A n l) (hv : VW l) :
    Calls Tryd.prog 9 #[.slice A n c] w fun e w' => ∃ f : Int → Bool, (∀ j : Nat, j < 4 → (f j = true ↔ Rch l j j)) ∧ IntsP w (markL f) e w' := by
  have HV := Lib.hid hv
  have hB0 := heap_alloc_new w (.cells #[.bool false, .bool false, .bool false, .bool false] 44)
  have hbA := (Below.refl w.heap.size w).alloc (Nat.le_refl _) (.cells #[.bool false, .bool false, .bool false, .bool false] 44)
  clear hv
  go_enter Tryd.func9, Tryd.ntmps9
  go_wp2_with fail
  go_loopw [5] (fun i wr => ∃ (k : Nat) (g : Int → Bool), k ≤ 4 ∧ i = .int .i64 k ∧ Below w.heap.size w wr ∧ wr.heap[w.heap.size]? = some (.cells #[.bool (g 0), .bool (g 1), .bool (g 2), .bool (g 3)] 44 (0, 0)) ∧ (∀ j : Nat, j < k → (g j = true ↔ Rch l j j))) (fun i _ => 4 - (intOf i).toNat)
  case atStart => exact ⟨0, fun _ => false, Nat.zero_le _, rfl, hbA, hB0, fun j h => absurd h (by omega)⟩
  case round =>
    rename World => W1
    obtain ⟨k, g, hk, rfl, hbl, hG, hK⟩ := hrel
    have hs := hbl.size
    by_cases hlt : k < 4
    case neg =>
      have HA : Hid (∀ j : Nat, j < 4 → (g j = true ↔ Rch l j j)) := fun j h => hK j (by omega)
      have e0 := blk_cell (i := 0) hG rfl
      have e1 := blk_cell (i := 1) hG rfl
      have e2 := blk_cell (i := 2) hG rfl
      have e3 := blk_cell (i := 3) hG rfl
      clear hK hG
      go_wp2_with fail
      refine (marked_any g _).mono ?_
      rintro e w2 ⟨v, rfl, ho2, hb2⟩
      have hB := hbl.trans (hb2.mono hs)
      go_wp2_with fail
      go_ret
      exact ⟨g, HA.out, _, rfl, ho2.low hs, hB⟩
    have hr1 := hr.below hbl
    have HK := Lib.hid hK
    have hlt' : (k : Int) < 4 := by omega
    clear hK
    go_wp2_with fail
    refine (WaitsFor_t lo A n c l k _ hr1 HV.out ⟨by omega, by omega⟩).mono ?_
    rintro e w2 ⟨f, hf, v, rfl, ho2, hb2⟩
    have HF := Lib.hid (hf k)
    have HB2 := Lib.hid (hbl.trans (hb2.mono hs))
    have hG2 := blk_below hG hb2
    obtain ⟨A2, m2, c2, rfl, _, hrd⟩ := ho2.rdn elI.len (by have := markL_len f; omega)
    have HG2 := Lib.hid hG2
    have z0 := blk_free hG2 k
    have z1 := blk_cell hG2 (marks_at g hlt)
    clear hf hG hG2 ho2 hb2
    go_wp2_with fail
    refine (ContainsI_any _ A2 m2 c2 (markL f) k _ hrd).mono ?_
    rintro e w3 ⟨rfl, rfl⟩
    rw [mark_has hlt]
    generalize hfk : f k = b
    have HN : Hid (∀ j : Nat, j < k + 1 → ((fun a : Int => if a = k then b else g a) j = true ↔ Rch l j j)) := fun j hj => by
      by_cases e : j = k
      · subst e; simp only [if_true]; rw [← hfk]; exact HF.out
      · simp only; rw [if_neg (by omega)]; exact HK.out j (by omega)
    have HS := Lib.hid (marks_setb g hlt b)
    clear hfk hrd
    go_wp2_with fail
    go_roundw
    case rel => exact ⟨k + 1, (fun a : Int => if a = k then b else g a), by omega, by go_num, HB2.out.setCell (p := ⟨w.heap.size, k, none⟩) (Nat.le_refl _) _, (blk_set HG2.out k _).trans (by rw [HS.out]), HN.out⟩
    case measure => simp [intOf]; omega

theorem bel_nextW {w w1 w2 : World} {B : Nat} (h : Below w.heap.size w w1) (hb : Below B w1 w2) (hB : B = w1.heap.size := by rfl) : Below w.heap.size w w2 := by subst hB; exact h.trans (hb.mono h.size)
theorem elW2 : ElemT Tryd.prog cW 2 28 36 16 := mkElem (z := .agg #[.int .i64 0, .int .i64 0]) Tryd.underlying28 (by kernel_rfl) rfl (by omega) (by omega) (fun _ => rfl) one_W
theorem bool4 {f g : Int → Bool} (h : ∀ o, f o = g o) : (#[.bool (f 0), .bool (f 1), .bool (f 2), .bool (f 3)] : Array Value) = #[.bool (g 0), .bool (g 1), .bool (g 2), .bool (g 3)] := by rw [h 0, h 1, h 2, h 3]
def WtsP (w : World) (l : List Wt) (e : Ending) (w' : World) : Prop := ∃ v, e = .returned v ∧ Own cW 2 36 w' w.heap.size v l ∧ Below w.heap.size w w'
set_option maxRecDepth 100000 in
set_option maxHeartbeats 6400000 in
theorem RunWaits_own (lo lo2 lo3 : Nat) (A A2 A3 : Option Addr) (n c n2 c2 n3 c3 : Nat) (t : List Nd) (sc : List (List Dd)) (ps : List Int) (w : World) (hr : Rd cN 3 w lo A n t) (hc : n ≤ c) (hr2 : Rds cD 2 w lo2 A2 n2 sc) (hr3 : Rd cI 1 w lo3 A3 n3 ps) (hT : Tb w) :
    Calls Tryd.prog 5 #[.slice A n c, .slice A2 n2 c2, .slice A3 n3 c3] w (WtsP w (rwF t sc ps)) := by
  have hle2 := hr2.le
  go_enter Tryd.func5, Tryd.ntmps5
  go_wp2_with fail
  refine (runAll_any lo lo2 lo3 A A2 A3 n c n2 c2 n3 c3 t sc ps w hr hc hr2 hr3 hT).mono ?_
  rintro e w1 (⟨hP, v1, v2, v3, v4, rfl, ⟨⟨B1, k1, d1, rfl, hd1, _⟩, ⟨B2, k2, d2, rfl, hd2, hrP⟩, ⟨B3, k3, d3, rfl, hd3, _⟩, ⟨B4, k4, d4, rfl, hd4, hrT⟩⟩, hb1⟩ | ⟨hP, rfl, hb1⟩)
  case inr =>
    have HE : Hid (rwF t sc ps = []) := onR_f hP _
    have HB := Lib.hid (hb1.alloc hb1.size (.cells #[.slice none 0 0, .slice none 0 0, .slice none 0 0, .slice none 0 0] 40))
    clear hP
    go_wp2_with fail
    go_ret
    exact ⟨_, rfl, by rw [HE.out]; exact Own.nil _ _, HB.out⟩
  have HE : Hid (rwF t sc ps = wtF t sc (runM t sc ps) sc.length) := onR_t hP _
  have hI := hP.inv
  have hvt := hP.1
  have hsc := hP.2.1
  have HL2 := Lib.hid hr2.len
  have hn24 : n2 ≤ 4 := by have := hsc.1; have := HL2.out; omega
  generalize hm : runM t sc ps = m at *
  clear hm hP
  have HG0 := Lib.hid (heap_alloc_new w1 (.cells #[.slice B1 k1 d1, .slice B2 k2 d2, .slice B3 k3 d3, .slice B4 k4 d4] 40))
  have hbW := hb1.alloc hb1.size (.cells #[.slice B1 k1 d1, .slice B2 k2 d2, .slice B3 k3 d3, .slice B4 k4 d4] 40)
  have hr0 := (hr.below hb1).alloc (.cells #[.slice B1 k1 d1, .slice B2 k2 d2, .slice B3 k3 d3, .slice B4 k4 d4] 40)
  have hrs0 := (hr2.below hb1).alloc (.cells #[.slice B1 k1 d1, .slice B2 k2 d2, .slice B3 k3 d3, .slice B4 k4 d4] 40)
  have hT0 := (hT.below hb1).alloc (.cells #[.slice B1 k1 d1, .slice B2 k2 d2, .slice B3 k3 d3, .slice B4 k4 d4] 40)
  have hP0 := hrP.alloc (.cells #[.slice B1 k1 d1, .slice B2 k2 d2, .slice B3 k3 d3, .slice B4 k4 d4] 40)
  have hTb0 := hrT.alloc (.cells #[.slice B1 k1 d1, .slice B2 k2 d2, .slice B3 k3 d3, .slice B4 k4 d4] 40)
  clear hr hr2 hr3 hT hrP hrT
  go_wp2_with fail
  generalize hW0 : w1.alloc (.cells #[.slice B1 k1 d1, .slice B2 k2 d2, .slice B3 k3 d3, .slice B4 k4 d4] 40) = W0 at *
  clear hW0
  go_loopw [9, 30] (fun v i wr => ∃ j : Nat, j ≤ n2 ∧ i = .int .i64 j ∧ Own cW 2 36 wr W0.heap.size v (wtF t sc m j) ∧ Below W0.heap.size W0 wr) (fun _ i _ => n2 - (intOf i).toNat)
  case atStart => exact ⟨0, Nat.zero_le _, rfl, Own.nil _ _, Below.refl _ _⟩
  case round =>
    rename World => W1
    obtain ⟨j, hj, rfl, ho, hbl⟩ := hrel
    have hs := hbl.size
    by_cases hlt : j < n2
    case neg =>
      obtain rfl : j = n2 := by omega
      have hwl := wtF_le (m := m) (t := t) hsc (k := sc.length) (Nat.le_refl _)
      rw [← HL2.out] at ho
      obtain ⟨A9, m9, c9, rfl, hc9, _⟩ := id (ho.rdn elW2.len (by omega))
      have HR9 := Lib.hid ho
      clear ho hwl
      go_wp2_with fail
      go_ret
      exact ⟨_, rfl, by rw [HE.out]; exact HR9.out.low hbW.size, bel_nextW hbW hbl⟩
    have hjs : j < sc.length := by have := HL2.out; omega
    have HWS := Lib.hid (wtF_succ t sc m j)
    have HWL : Hid ((wtF t sc m j).length ≤ 12) := wtF_le hsc (by omega)
    have hG1 := blk_below HG0.out hbl
    have hG1l := blk_lt hG1
    have e1 := blk_cell hG1 (i := 1) rfl
    have e3 := blk_cell hG1 (i := 3) rfl
    obtain ⟨b, o, A', m', c', s, rfl, _, hb, hsx, g0, hmc, hrsw⟩ := (hrs0.below hbl).get hlt
    have hse : s = scr sc j := by rw [scr_get hjs] at hsx; injection hsx with hsx; exact hsx.symm
    subst hse
    have HM2 := Lib.hid hrsw.len
    have hjk : j < k2 := by have := hP0.len; have := hI.plen; omega
    have hjk' : (j : Int) < (k2 : Int) := by omega
    obtain ⟨bp, op, xp, rfl, _, hbp, hxp, p0⟩ := (hP0.below hbl).atI hjk
    obtain ⟨hp0, hp1⟩ := hI.prange j hjs
    obtain ⟨pn, hpn⟩ := Int.eq_ofNat_of_zero_le hp0
    have hxe : xp = pn := by
      rw [plc_get (by rw [hI.plen]; exact hjs)] at hxp
      injection hxp with hxp
      rw [← hxp]; exact hpn
    subst hxe
    have hpm : pn ≤ m' := by have := HM2.out; omega
    clear hsx hxp
    by_cases hd : pn = m'
    case pos =>
      have HN : Hid (wtF t sc m (j + 1) = wtF t sc m j) := by
        show _ = _
        rw [HWS.out, wtOne_none (nextD_end (by rw [hpn, hd]; have := HM2.out; omega)), List.append_nil]
      subst hd
      clear hrsw hG1
      go_wp2_with fail
      go_roundw
      case rel => exact ⟨j + 1, by omega, by go_num, by rw [HN.out]; exact ho, hbl⟩
      case measure => simp [intOf]; omega
    have hdn : ((pn : Int) == (m' : Int)) = false := by simp; omega
    obtain ⟨bx, ox, d, rfl, _, hbx, hx, x0, x1⟩ := hrsw.atD (k := pn) (by omega)
    have hnd := nextD_of hpn hx
    obtain ⟨hisn, hask, hok⟩ := do_ok hvt hsc hjs hnd
    have HWO := Lib.hid (wtOne_some (t := t) hnd)
    have HASK := Lib.hid hask
    have HISN := Lib.hid hisn
    have HBK := Lib.hid (heap_alloc_new W1 (.cells #[.bool false, .bool false, .bool false, .bool false] 44))
    have hbA := (Below.refl W1.heap.size W1).alloc (Nat.le_refl _) (.cells #[.bool false, .bool false, .bool false, .bool false] 44)
    have HLO := Lib.hid (locksOf_t lo A n c t j d (W1.alloc (.cells #[.bool false, .bool false, .bool false, .bool false] 44)) ((hr0.below hbl).alloc _) hc hisn hask)
    have hLl : (lkF t j d.node (modeF d)).length ≤ 5 := lkF_len hisn
    have HASKL : Hid (∀ x ∈ lkF t j d.node (modeF d), x.who = j) := fun x hx => lkF_who hx
    have HO := Lib.hid ho
    obtain ⟨dn, da⟩ := d
    simp only at x0 x1 HLO HISN HASK hLl HASKL
    have HBD : Hid (∀ q, blkD t m j ⟨dn, da⟩ q = (lkF t j dn (modeF ⟨dn, da⟩)).any fun x => decide (q ∈ lbF m.tab j x.node x.mode)) := fun q => rfl
    generalize hL : lkF t j dn (modeF ⟨dn, da⟩) = L at *
    clear hx hnd hisn hask hok hrsw hG1 hL ho
    go_wp2_with fail
    refine HLO.out.mono ?_
    rintro e w4 ⟨v4, rfl, ho4, hb4⟩
    obtain ⟨A5, m5, c5, rfl, hc5, hr5⟩ := id (ho4.rdn elL.len (by omega))
    have hB4 : Below W1.heap.size W1 w4 := hbA.trans (hb4.mono hbA.size)
    have hm5 : m5 ≤ 5 := by have := hr5.len; omega
    have HL5 := Lib.hid hr5.len
    have HM4 := Lib.hid (blk_below HBK.out hb4)
    have HO4 := Lib.hid (ho4.low (base' := W1.heap.size) (by simp))
    clear hr5 ho4
    go_wp2_with fail
    go_loopw [55] (fun i wr => ∃ (q : Nat) (f : Int → Bool), q ≤ m5 ∧ i = .int .i64 q ∧ Below W1.heap.size W1 wr ∧ Own cL 3 49 wr W1.heap.size (.slice A5 m5 c5) L ∧
      wr.heap[W1.heap.size]? = some (.cells #[.bool (f 0), .bool (f 1), .bool (f 2), .bool (f 3)] 44 (0, 0)) ∧ ∀ z, f z = (L.take q).any fun x => decide (z ∈ lbF m.tab j x.node x.mode)) (fun i _ => m5 - (intOf i).toNat)
    case atStart => exact ⟨0, fun _ => false, Nat.zero_le _, rfl, hB4, HO4.out, HM4.out, fun z => rfl⟩
    case round =>
      rename World => W2
      obtain ⟨q, f, hq, rfl, hbl2, hoL, hMk, hF⟩ := hrel
      have hs2 := hbl2.size
      have HF := Lib.hid hF
      clear hF
      by_cases hltq : q < m5
      case neg =>
        obtain rfl : q = m5 := by omega
        have HFB : Hid (f = blkD t m j ⟨dn, da⟩) := funext fun z => by rw [HF.out, HBD.out, List.take_of_length_le (by have := HL5.out; omega)]
        have z0 := blk_cell hMk (i := 0) rfl
        have z1 := blk_cell hMk (i := 1) rfl
        have z2 := blk_cell hMk (i := 2) rfl
        have z3 := blk_cell hMk (i := 3) rfl
        have HO2 := Lib.hid (HO.out.below hbl2)
        clear hMk hoL
        go_wp2_with fail
        refine (marked_any f _).mono ?_
        rintro e w6 ⟨v6, rfl, ho6, hb6⟩
        obtain ⟨A7, m7, c7, rfl, hc7, hr7⟩ := id (ho6.rdn elI.len (by have := markL_len f; omega))
        have hm7 : m7 ≤ 4 := by have := hr7.len; have := markL_len f; omega
        have HL7 := Lib.hid hr7.len
        have HO6 := Lib.hid (HO2.out.below hb6)
        have HI6 := Lib.hid ho6
        have hB6 := hbl.trans ((hbl2.trans (hb6.mono hs2)).mono hs)
        have hs6 := hb6.size
        clear ho6 hr7
        go_wp2_with fail
        go_loopw [9, 79] (fun v i wr => ∃ z : Nat, z ≤ m7 ∧ i = .int .i64 z ∧ Own cW 2 36 wr W0.heap.size v (wtF t sc m j ++ (((markL f).take z).map fun o => (⟨(j : Int), o⟩ : Wt))) ∧ Own cI 1 3 wr W2.heap.size (.slice A7 m7 c7) (markL f) ∧ Below W0.heap.size W0 wr) (fun _ i _ => m7 - (intOf i).toNat)
        case atStart => exact ⟨0, Nat.zero_le _, rfl, by simpa using HO6.out, HI6.out, hB6⟩
        case round =>
          rename World => W3
          obtain ⟨z, hz, rfl, ho3, hoI, hbl3⟩ := hrel
          have hs3 := hbl3.size
          by_cases hltz : z < m7
          case neg =>
            obtain rfl : z = m7 := by omega
            have HN : Hid (wtF t sc m (j + 1) = wtF t sc m j ++ (((markL f).take z).map fun o => (⟨(j : Int), o⟩ : Wt))) := by
              show _ = _
              rw [HWS.out, HWO.out, ← HFB.out, List.take_of_length_le (by have := HL7.out; omega)]
            go_wp2_with fail
            go_roundw
            case rel => exact ⟨j + 1, by omega, by go_num, by rw [HN.out]; exact ho3, hbl3⟩
            case measure => simp [intOf]; omega
          obtain ⟨_, hrd⟩ := hoI.rds elI.len (by have := markL_len f; omega)
          obtain ⟨b7, o7, x7, hA7, _, _, hx7, y0⟩ := hrd.atI hltz
          subst hA7
          have HTS : Hid ((markL f).take (z + 1) = (markL f).take z ++ [x7]) := take_snoc hx7
          have HLW : Hid ((wtF t sc m j ++ (((markL f).take z).map fun o => (⟨(j : Int), o⟩ : Wt))).length ≤ 16) := by
            show _ ≤ _
            have h1 := HWL.out
            have h2 := markL_len f
            rw [List.length_append, List.length_map, List.length_take]
            omega
          clear hx7 hrd
          go_wp2_with (at_builtin; refine wpList_append_rd elW2 _ rfl (.tmp 83) (.tmp 87) rfl rfl (ho3.alloc _) rfl (Rd_one W3 #[.int .i64 j, .int .i64 x7] 36 (⟨(j : Int), x7⟩ : Wt) rfl) (by have := HLW.out; omega) (by simp; omega) ?_; intro v8 w8 ho8 hg8 _)
          have hB8 := below_own (hbl3.alloc hs3 _) (ho3.alloc (.cells #[.int .i64 j, .int .i64 x7] 36)) hg8 (Nat.le_refl _) (by simp; omega)
          have hI8 := (hoI.alloc (.cells #[.int .i64 j, .int .i64 x7] 36)).grown' hg8 (Own.ap (hoI.alloc (.cells #[.int .i64 j, .int .i64 x7] 36)) (ho3.alloc (.cells #[.int .i64 j, .int .i64 x7] 36)) (by decide))
          go_roundw
          case rel => exact ⟨z + 1, by omega, by go_num, by rw [HTS.out, List.map_append, ← List.append_assoc]; exact ho8, hI8, hB8⟩
          case measure => simp [intOf]; omega
      obtain ⟨_, hrL⟩ := hoL.rds elL.len (by omega)
      obtain ⟨b5, o5, x, hA5, _, hb5, hx5, l0, l1, l2⟩ := hrL.atL hltq
      subst hA5
      have hxw := HASKL.out x (List.mem_of_getElem? hx5)
      have HTS : Hid (L.take (q + 1) = L.take q ++ [x]) := take_snoc hx5
      obtain ⟨xw, xn, xm⟩ := x
      simp only at l0 l1 l2 hxw
      subst hxw
      have hbX := hbl.trans (hbl2.mono hs)
      have HLB := Lib.hid (LockBlockers_any _ B4 k4 d4 m.tab j xn xm (W2.alloc (.cells #[.int .i64 j, .int .i64 xn, .int .i64 xm] 49)) ((hTb0.below hbX).alloc _) hd4 ((hT0.below hbX).alloc _))
      have hG2 := blk_below HG0.out hbX
      have hG2l := blk_lt hG2
      have t3 := blk_cell hG2 (i := 3) rfl
      have HMk := Lib.hid (blk_alloc hMk (.cells #[.int .i64 j, .int .i64 xn, .int .i64 xm] 49))
      have HoL := Lib.hid (hoL.alloc (.cells #[.int .i64 j, .int .i64 xn, .int .i64 xm] 49))
      have hbL := hbl2.alloc hs2 (.cells #[.int .i64 j, .int .i64 xn, .int .i64 xm] 49)
      have HYB : Hid (∀ y ∈ lbF m.tab j xn xm, 0 ≤ y ∧ y ≤ 3) := fun y hy => (lbF_mem hy).1
      have hYl : (lbF m.tab j xn xm).length ≤ 3 := lbF_len3 ⟨by omega, by omega⟩
      clear hx5 hrL hMk hoL hG2
      go_wp2_with fail
      refine HLB.out.mono ?_
      rintro e w5 ⟨v5, rfl, ho5, hb5'⟩
      obtain ⟨A6, m6, c6, rfl, hc6, hr6⟩ := id (ho5.rdn elI.len (by omega))
      have hm6 : m6 ≤ 3 := by have := hr6.len; omega
      have HL6 := Lib.hid hr6.len
      have hB5 : Below W1.heap.size W1 w5 := hbL.trans (hb5'.mono hbL.size)
      have HM5 := Lib.hid (blk_below HMk.out hb5')
      have HoL5 := Lib.hid (HoL.out.below hb5')
      have HY5 := Lib.hid (ho5.low (base' := W1.heap.size) (by simp; omega))
      clear hr6 ho5 t3
      go_wp2_with fail
      go_loopw [68] (fun i wr => ∃ (z : Nat) (f' : Int → Bool), z ≤ m6 ∧ i = .int .i64 z ∧ Below W1.heap.size W1 wr ∧ Own cL 3 49 wr W1.heap.size (.slice (some ⟨b5, o5, none⟩) m5 c5) L ∧ Own cI 1 3 wr W1.heap.size (.slice A6 m6 c6) (lbF m.tab j xn xm) ∧
        wr.heap[W1.heap.size]? = some (.cells #[.bool (f' 0), .bool (f' 1), .bool (f' 2), .bool (f' 3)] 44 (0, 0)) ∧ ∀ y, f' y = (f y || decide (y ∈ (lbF m.tab j xn xm).take z))) (fun i _ => m6 - (intOf i).toNat)
      case atStart => exact ⟨0, f, Nat.zero_le _, rfl, hB5, HoL5.out, HY5.out, HM5.out, fun y => by simp⟩
      case round =>
        rename World => W3
        obtain ⟨z, f', hz, rfl, hbl3, hoL3, hoY, hMk3, hF3⟩ := hrel
        have hs3 := hbl3.size
        have HF3 := Lib.hid hF3
        clear hF3
        by_cases hltz : z < m6
        case neg =>
          obtain rfl : z = m6 := by omega
          have HN : Hid (∀ y, f' y = (L.take (q + 1)).any fun x => decide (y ∈ lbF m.tab j x.node x.mode)) := fun y => by
            have e : (lbF m.tab j xn xm).take z = lbF m.tab j xn xm := List.take_of_length_le (by have := HL6.out; omega)
            rw [HF3.out, e, HF.out, HTS.out, List.any_append]
            simp
          have HMk3 := Lib.hid hMk3
          clear hMk3 hoY
          go_wp2_with fail
          go_roundw
          case rel => exact ⟨q + 1, f', by omega, by go_num, hbl3, hoL3, HMk3.out, HN.out⟩
          case measure => simp [intOf]; omega
        obtain ⟨_, hrY⟩ := hoY.rds elI.len (by omega)
        obtain ⟨b6, o6, y, hA6, _, hb6, hy, y0⟩ := hrY.atI hltz
        subst hA6
        obtain ⟨hy0, hy3⟩ := HYB.out y (List.mem_of_getElem? hy)
        obtain ⟨yn, rfl⟩ := Int.eq_ofNat_of_zero_le hy0
        have hyn : yn < 4 := by omega
        have hyn' : (yn : Int) < 4 := by omega
        have HTY : Hid ((lbF m.tab j xn xm).take (z + 1) = (lbF m.tab j xn xm).take z ++ [(yn : Int)]) := take_snoc hy
        have z0 := blk_free hMk3 yn
        have z1 := blk_cell hMk3 (marks_at f' hyn)
        have HSET := Lib.hid ((blk_set hMk3 yn (.bool true)).trans (by rw [marks_set f' hyn]))
        have HNF : Hid (∀ v, (decide ((yn : Int) = v) || f' v) = (f v || decide (v ∈ (lbF m.tab j xn xm).take (z + 1)))) := fun v => by
          rw [HF3.out, HTY.out]
          by_cases e : (yn : Int) = v
          · subst e; simp
          · have e' : ¬ v = (yn : Int) := fun h => e h.symm
            simp [e, e']
        have HoL4 := Lib.hid (hoL3.keepb hMk3 (by decide) yn (.bool true))
        have HoY4 := Lib.hid (hoY.keepb hMk3 (by decide) yn (.bool true))
        have hB4' := hbl3.setCell (p := ⟨W1.heap.size, yn, none⟩) (Nat.le_refl _) (.bool true)
        clear hy hrY hMk3 hoL3 hoY
        go_wp2_with fail
        go_roundw
        case rel => exact ⟨z + 1, fun v => decide ((yn : Int) = v) || f' v, by omega, by go_num, hB4', HoL4.out, HoY4.out, HSET.out, HNF.out⟩
        case measure => simp [intOf]; omega
theorem RunWaits_any (lo lo2 lo3 : Nat) (A A2 A3 : Option Addr) (n c n2 c2 n3 c3 : Nat) (t : List Nd) (sc : List (List Dd)) (ps : List Int) (w : World) (hr : Rd cN 3 w lo A n t) (hc : n ≤ c) (hr2 : Rds cD 2 w lo2 A2 n2 sc) (hr3 : Rd cI 1 w lo3 A3 n3 ps) (hT : Tb w) :
    Calls Tryd.prog 5 #[.slice A n c, .slice A2 n2 c2, .slice A3 n3 c3] w (WtsR w (rwF t sc ps)) :=
  (RunWaits_own lo lo2 lo3 A A2 A3 n c n2 c2 n3 c3 t sc ps w hr hc hr2 hr3 hT).mono fun _ _ ⟨v, e, ho, hb⟩ => by
    obtain ⟨A9, m9, c9, rfl, hc9, hr9⟩ := ho.rdn elW2.len (by have := rwF_len (t := t) (sc := sc) (ps := ps); omega)
    exact ⟨A9, m9, c9, e, hc9, hr9, hb⟩

theorem gbel3 {a b c : World} {row : Option Nat} (h : a.grownBy b row) (k : Below b.heap.size b c) : a.grownBy c row :=
  ⟨k.os.trans h.os, k.tape.trans h.tape, k.output.trans h.output, Nat.le_trans h.size k.size, fun i hi hne => (k.block i (Nat.lt_of_lt_of_le hi h.size)).trans (h.block i hi hne)⟩
theorem gall3 {w0 w : World} {row : Option Nat} (h : w0.grownBy w row) (o : Obj) : w0.grownBy (w.alloc o) row := gbel3 h ((Below.refl _ _).alloc (Nat.le_refl _) o)
theorem bog3 {w w1 w2 : World} (h1 : Below w.heap.size w w1) {R : Nat} (h2 : w1.grownBy w2 (some R)) (hR : w.heap.size ≤ R) : Below w.heap.size w w2 :=
  h1.grown h2 h1.size fun k hk => by injection hk with hk; omega
theorem grown_own2 {w0 w w' : World} {R : Nat} {row : Option Nat} (h : w0.grownBy w (some R)) (hg : w.grownBy w' row) (hr : ∀ g, row = some g → g = R ∨ w0.heap.size ≤ g) : w0.grownBy w' (some R) :=
  ⟨hg.os.trans h.os, hg.tape.trans h.tape, hg.output.trans h.output, Nat.le_trans h.size hg.size, fun i hi hne =>
    (hg.block i (Nat.lt_of_lt_of_le hi h.size) (fun e => by
      rcases hr i e.symm with e2 | e2
      · exact hne (by rw [e2])
      · omega)).trans (h.block i hi hne)⟩
set_option maxRecDepth 100000 in
set_option maxHeartbeats 12800000 in
theorem RunWaitsS_any (lo lo2 lo3 : Nat) (A A2 A3 : Option Addr) (n c n2 c2 n3 c3 : Nat) (t : List Nd) (sc : List (List Dd)) (ps : List Int) (w : World) (hr : Rd cN 3 w lo A n t) (hc : n ≤ c) (hz : NmB t) (hr2 : Rds cD 2 w lo2 A2 n2 sc) (hr3 : Rd cI 1 w lo3 A3 n3 ps) :
    Calls Tryd.prog 7 #[.slice A n c, .slice A2 n2 c2, .slice A3 n3 c3] w (WtsR w (rwF t sc ps)) := by
  have hle2 := hr2.le
  have hbE := bel_alloc (Below.refl w.heap.size w) (.cells #[] 36)
  have hoE := Own.empty (cs := cW) (sz := 2) (e := 36) w elW2.len
  have HV := Lib.hid (validRun_any lo lo2 lo3 A A2 A3 n c n2 c2 n3 c3 t sc ps (w.alloc (.cells #[] 36)) (hr.alloc _) hc hz (hr2.alloc _) (hr3.alloc _))
  by_cases hP : VR t sc ps
  case neg =>
    have HE : Hid (rwF t sc ps = []) := onR_f hP _
    rw [vrB_f hP] at HV
    clear hP
    go_enter Tryd.func7, Tryd.ntmps7
    go_wp2_with fail
    refine HV.out.mono ?_
    rintro e w1 ⟨rfl, hb1⟩
    go_wp2_with fail
    go_ret
    exact ⟨_, _, _, rfl, Nat.le_refl _, by rw [HE.out]; exact Rd.nil, bel_next hbE hb1⟩
  have HE : Hid (rwF t sc ps = wtF t sc (runM t sc ps) sc.length) := onR_t hP _
  rw [vrB_t hP] at HV
  have hI := hP.inv
  have hvt := hP.1
  have hsc := hP.2.1
  have HL2 := Lib.hid hr2.len
  have hn24 : n2 ≤ 4 := by have := hsc.1; have := HL2.out; omega
  have HRUN : Hid (∀ w', Below w.heap.size w w' → Calls Tryd.prog 19 #[.slice A n c, .slice A2 n2 c2, .slice A3 n3 c3] w' (PickO w' w'.heap.size (runM t sc ps))) := fun w' hb => run_t lo lo2 lo3 A A2 A3 n c n2 c2 n3 c3 t sc ps w' hP (hr.below hb) (hr2.below hb) (hr3.below hb)
  generalize hm : runM t sc ps = m at *
  clear hm hP
  go_enter Tryd.func7, Tryd.ntmps7
  go_wp2_with fail
  refine HV.out.mono ?_
  rintro e w1 ⟨rfl, hb1⟩
  have hB1 := bel_next hbE hb1
  go_wp2_with fail
  refine (HRUN.out w1 hB1).mono ?_
  rintro e w2 ⟨v1, v2, v3, v4, rfl, ⟨⟨B1, k1, d1, rfl, hd1, _⟩, ⟨B2, k2, d2, rfl, hd2, hrP⟩, ⟨B3, k3, d3, rfl, hd3, _⟩, ⟨B4, k4, d4, rfl, hd4, hrT⟩⟩, hb2⟩
  have hB2 := bel_next hB1 hb2
  have hs1 := hB1.size
  have hs2 := hB2.size
  have HO2 := Lib.hid ((hoE.below hb1).below hb2)
  have HG0 := Lib.hid (heap_alloc_new w2 (.cells #[.slice B1 k1 d1, .slice B4 k4 d4, .slice B2 k2 d2, .slice B3 k3 d3] 54))
  have hbW := bel_alloc hB2 (.cells #[.slice B1 k1 d1, .slice B4 k4 d4, .slice B2 k2 d2, .slice B3 k3 d3] 54)
  have HRT := Lib.hid hr
  have HRS := Lib.hid hr2
  have hP0 := hrP.alloc (.cells #[.slice B1 k1 d1, .slice B4 k4 d4, .slice B2 k2 d2, .slice B3 k3 d3] 54)
  have hTb0 := hrT.alloc (.cells #[.slice B1 k1 d1, .slice B4 k4 d4, .slice B2 k2 d2, .slice B3 k3 d3] 54)
  have HOW := Lib.hid (HO2.out.alloc (.cells #[.slice B1 k1 d1, .slice B4 k4 d4, .slice B2 k2 d2, .slice B3 k3 d3] 54))
  have hRlt : w.heap.size < w1.heap.size := by have := hb1.size; simp only [World.size_alloc] at this; omega
  have hR2 : w2.heap.size ≠ w.heap.size := by have := hb2.size; omega
  have hG0l := blk_lt HG0.out
  have hlt0 : w.heap.size ≤ w2.heap.size := by have := hb2.size; omega
  clear hr hr2 hr3 hrP hrT HV HRUN hoE
  go_wp2_with fail
  generalize hW0 : w2.alloc (.cells #[.slice B1 k1 d1, .slice B4 k4 d4, .slice B2 k2 d2, .slice B3 k3 d3] 54) = W0 at *
  clear hW0
  go_loopw [7, 9] (fun v i wr => ∃ j : Nat, j ≤ n2 ∧ i = .int .i64 j ∧ Own cW 2 36 wr w.heap.size v (wtF t sc m j) ∧ (∀ g, v.ownBlock = some g → g = w.heap.size ∨ W0.heap.size ≤ g) ∧ W0.grownBy wr (some w.heap.size)) (fun _ i _ => n2 - (intOf i).toNat)
  case atStart => exact ⟨0, Nat.zero_le _, rfl, HOW.out, fun g hg => .inl (by simpa [Value.ownBlock] using hg.symm), World.grownBy.refl _ _⟩
  case round =>
    rename World => W1
    obtain ⟨j, hj, rfl, ho, hob, hgr⟩ := hrel
    have hB := bog3 hbW hgr (Nat.le_refl _)
    have hs := hB.size
    by_cases hlt : j < n2
    case neg =>
      obtain rfl : j = n2 := by omega
      have hwl := wtF_le (m := m) (t := t) hsc (k := sc.length) (Nat.le_refl _)
      rw [← HL2.out] at ho
      obtain ⟨A9, m9, c9, rfl, hc9, hr9⟩ := ho.rdn elW2.len (by omega)
      have HR9 := Lib.hid hr9
      clear hr9 ho hwl
      go_wp2_with fail
      go_ret
      exact ⟨_, _, _, rfl, hc9, by rw [HE.out]; exact HR9.out, hB⟩
    have hjs : j < sc.length := by have := HL2.out; omega
    have hjn : (j : Int) < (n2 : Int) := by omega
    have HWS := Lib.hid (wtF_succ t sc m j)
    have HWL : Hid ((wtF t sc m j).length ≤ 12) := wtF_le hsc (by omega)
    have hG1 := blk_keep HG0.out hgr (by intro e; injection e with e; omega)
    have e1 := blk_cell hG1 (i := 1) rfl
    have e2 := blk_cell hG1 (i := 2) rfl
    obtain ⟨b, o, A', m', c', s, rfl, _, hb, hsx, g0, hmc, hrsw⟩ := (HRS.out.below hB).get hlt
    have hse : s = scr sc j := by rw [scr_get hjs] at hsx; injection hsx with hsx; exact hsx.symm
    subst hse
    have HM2 := Lib.hid hrsw.len
    have hjk : j < k2 := by have := hP0.len; have := hI.plen; omega
    have hjk' : (j : Int) < (k2 : Int) := by omega
    obtain ⟨bp, op, xp, rfl, _, hbp, hxp, p0⟩ := (hP0.grown hgr hRlt).atI hjk
    obtain ⟨hp0, hp1⟩ := hI.prange j hjs
    obtain ⟨pn, hpn⟩ := Int.eq_ofNat_of_zero_le hp0
    have hxe : xp = pn := by
      rw [plc_get (by rw [hI.plen]; exact hjs)] at hxp
      injection hxp with hxp
      rw [← hxp]; exact hpn
    subst hxe
    have hpm : pn ≤ m' := by have := HM2.out; omega
    have aa := aft e2
    have ab := aft g0
    have ac := aft p0
    have HG1 := Lib.hid hG1
    have HX0 := Lib.hid g0
    have HX1 := Lib.hid p0
    clear hsx hxp g0 p0 e1 e2 hG1
    go_upto_region 8 with fail
    refine wp_region_after (by kernel_rfl) (by kernel_rfl) ?_
    repeat (go_big_quiet_step (fail))
    refine wpQuiet_nil ?_
    intro w7 hb7
    have hgr7 := gbel3 hgr hb7
    have hB7 := bel_next hB hb7
    have hs7 := hb7.size
    have ho7 := ho.below hb7
    have hG7 := blk_below HG1.out hb7
    have g7 := (hb7.cell (p := ⟨b, o + j, none⟩) (World.block_lt_of_cell? _ _ HX0.out)).trans HX0.out
    have p7 := (hb7.cell (p := ⟨bp, op + j, none⟩) (World.block_lt_of_cell? _ _ HX1.out)).trans HX1.out
    clear aa ab ac HG1 HX0 HX1
    by_cases hd : pn = m'
    case pos =>
      have HN : Hid (wtF t sc m (j + 1) = wtF t sc m j) := by
        show _ = _
        rw [HWS.out, wtOne_none (nextD_end (by rw [hpn, hd]; have := HM2.out; omega)), List.append_nil]
      subst hd
      clear hrsw hG7 g7 p7
      go_wp2_with fail
      go_roundw
      case rel => exact ⟨j + 1, by omega, by go_num, by rw [HN.out]; exact ho7, hob, hgr7⟩
      case measure => simp [intOf]; omega
    have hdn : ((pn : Int) == (m' : Int)) = false := by simp; omega
    have hd' : (pn : Int) < (m' : Int) := by omega
    have hm3 : (m' : Int) ≤ 3 := by have := (hsc.scr hjs).1.2; have := HM2.out; omega
    obtain ⟨bx, ox, d, rfl, _, hbx, hx, x0, x1⟩ := (hrsw.below hb7).atD (k := pn) (by omega)
    have hnd := nextD_of hpn hx
    obtain ⟨hisn, hask, hok⟩ := do_ok hvt hsc hjs hnd
    have HFUL := Lib.hid (wtS_full hI hsc hnd)
    have HASK := Lib.hid hask
    have HISN := Lib.hid hisn
    have HLF : Hid (∀ w' : World, Below w7.heap.size w7 w' → Calls Tryd.prog 20 #[.slice A n c, .int .i64 (j : Int), .int .i64 d.node, .int .i64 (modeF d)] w' (LksP w' (lkF t j d.node (modeF d)))) := fun w' hb' => locksForS_t lo A n c t j d.node _ w' ((HRT.out.below hB7).below hb') HISN.out HASK.out.isM
    have hLl : (lkF t j d.node (modeF d)).length ≤ 5 := lkF_len hisn
    have HASKL : Hid (∀ x ∈ lkF t j d.node (modeF d), x.who = j ∧ OkAsk x.who x.node x.mode) := fun x hx => ⟨lkF_who hx, lkF_ask HISN.out HASK.out hx⟩
    have HBD : Hid (∀ q, blkD t m j d q = (lkF t j d.node (modeF d)).any fun x => decide (q ∈ lbF m.tab j x.node x.mode)) := fun q => rfl
    obtain ⟨dn, da⟩ := d
    simp only at x0 x1 HLF HISN HASK hLl HASKL HBD HFUL
    obtain ⟨nd, rfl⟩ := Int.eq_ofNat_of_zero_le hok.1.1
    have hdn12 : (nd : Int) ≤ 11 := by have h1 : (nd : Int) < t.length := hok.1.2; have := hvt.2.1; omega
    have hda0 : -50 ≤ da := hok.2.1
    have hda1 : da ≤ 50 := hok.2.2
    generalize hmode : modeF ⟨(nd : Int), da⟩ = md at *
    generalize hL : lkF t (j : Int) (nd : Int) md = L at *
    have HMD := Lib.hid hmode
    have HG7 := Lib.hid hG7
    have f2 := blk_cell hG7 (i := 2) rfl
    have n1 := World.new_ne w7 _ g7
    have n2' := World.new_ne w7 _ p7
    have n3' := World.new_ne w7 _ x0
    have n4 := World.new_ne w7 _ f2
    simp only at n1 n2' n3' n4
    clear hG7 hx hnd hisn hask hok hrsw hL hmode
    go_upto_region 9 with fail
    go_region_held3 (fun w' => w'.cell? ⟨b, o + j, none⟩ = some (.slice (some ⟨bx, ox, none⟩) m' c') ∧ w'.cell? ⟨w2.heap.size, 2, none⟩ = some (.slice (some ⟨bp, op, none⟩) k2 d2) ∧ w'.cell? ⟨bp, op + j, none⟩ = some (.int .i64 pn) ∧ w'.cell? ⟨bx, ox + pn * 2, none⟩ = some (.int .i64 nd) ∧ w'.cell? ⟨bx, ox + pn * 2 + 1, none⟩ = some (.int .i64 da)) (go_keep) (fail)
    have hgr8 := gbel3 hgr7 (bel_alloc (Below.refl w7.heap.size w7) (.cells #[.int .i64 nd, .int .i64 da] 47)).drew
    have hB8 := (bel_alloc hB7 (.cells #[.int .i64 nd, .int .i64 da] 47)).drew
    have hb78 := (bel_alloc (Below.refl w7.heap.size w7) (.cells #[.int .i64 nd, .int .i64 da] 47)).drew
    have hD8 := heap_alloc_new w7 (.cells #[.int .i64 nd, .int .i64 da] 47)
    have ho8 := (ho7.alloc (.cells #[.int .i64 nd, .int .i64 da] 47)).drew
    have hG8 := blk_alloc HG7.out (.cells #[.int .i64 nd, .int .i64 da] 47)
    have HD8 := Lib.hid hD8
    have HG8 := Lib.hid hG8
    have HO8 := Lib.hid ho8
    have HGR8 := Lib.hid hgr8
    have HB78 := Lib.hid hb78
    clear g7 p7 x0 x1 n1 n2' n3' n4 f2 hD8 hG8 ho7 hgr7 hgr8 ho8 hb78 HG7
    have dc1 : (w7.alloc (.cells #[.int .i64 nd, .int .i64 da] 47)).drew.cell? ⟨w7.heap.size, 1, none⟩ = some (.int .i64 da) := blk_cell HD8.out (i := 1) rfl
    go_upto_if 56 with fail
    obtain ⟨W8, hW8⟩ : ∃ X, X = (w7.alloc (.cells #[.int .i64 nd, .int .i64 da] 47)).drew := ⟨_, rfl⟩
    rw [← hW8] at hB8 dc1 ⊢
    have hD8 : W8.heap[w7.heap.size]? = some (.cells #[.int .i64 nd, .int .i64 da] 47 (0, 0)) := by rw [hW8]; exact HD8.out
    have hG8 : W8.heap[w2.heap.size]? = some (.cells #[.slice B1 k1 d1, .slice B4 k4 d4, .slice (some ⟨bp, op, none⟩) k2 d2, .slice B3 k3 d3] 54 (0, 0)) := by rw [hW8]; exact HG8.out
    have HO8' : Hid (Own cW 2 36 W8 w.heap.size u7 (wtF t sc m j)) := by show Own _ _ _ _ _ _ _; rw [hW8]; exact HO8.out
    have HGR8' : Hid (W0.grownBy W8 (some w.heap.size)) := by show World.grownBy _ _ _; rw [hW8]; exact HGR8.out
    have HB78' : Hid (Below w7.heap.size w7 W8) := by show Below _ _ _; rw [hW8]; exact HB78.out
    clear hW8 HD8 HG8 HO8 HGR8 HB78
    have HD8 := Lib.hid hD8
    have HG8 := Lib.hid hG8
    clear hD8 hG8
    go_cut [11] from 26 to 110 (fun v11 wx => v11 = .int .i64 md ∧ wx = W8)
    case first =>
      by_cases h0 : da = 0
      · have hm : Hid (md = 3) := by show _ = _; rw [← HMD.out]; unfold modeF; rw [if_pos h0]
        subst h0
        go_wp2_with fail
        go_meet
        exact ⟨by rw [hm.out], rfl⟩
      · have hm : Hid (md = 5) := by show _ = _; rw [← HMD.out]; unfold modeF; rw [if_neg h0]
        have h0' : (da == 0) = false := by simpa using h0
        clear h0
        go_wp2_with fail
        go_meet
        exact ⟨by rw [hm.out], rfl⟩
    case rest =>
    obtain ⟨rfl, rfl⟩ := hcut
    have hs8 := hB8.size
    have dc0 := blk_cell HD8.out (i := 0) rfl
    have dc0' : wc.cell? ⟨w7.heap.size, 0, none⟩ = some (.int .i64 nd) := dc0
    clear dc0 dc1
    go_wp2_with fail
    refine (HLF.out wc HB78'.out).mono ?_
    rintro e w9 ⟨v9, rfl, ho9, hb9⟩
    obtain ⟨A5, m5, c5, rfl, hc5, hr5⟩ := id (ho9.rdn elL.len (by omega))
    have hm5 : m5 ≤ 5 := by have := hr5.len; omega
    have HL5 := Lib.hid hr5.len
    have hgr9 := gbel3 HGR8'.out hb9
    have hG9 := Lib.hid (blk_below HG8.out hb9)
    have HO9 := Lib.hid (HO8'.out.below hb9)
    have HW9 := Lib.hid ho9
    have HGR9 := Lib.hid hgr9
    clear hr5 ho9 dc0' HG8 HD8 HO8' HGR8' hgr9
    go_wp2_with fail
    go_loopw [7, 13] (fun v i wr => ∃ q : Nat, q ≤ n2 ∧ i = .int .i64 q ∧ Own cW 2 36 wr w.heap.size v (wtF t sc m j ++ wtS t m j ⟨nd, da⟩ q) ∧ (∀ g, v.ownBlock = some g → g = w.heap.size ∨ W0.heap.size ≤ g) ∧ W0.grownBy wr (some w.heap.size) ∧ Own cL 3 49 wr wc.heap.size (.slice A5 m5 c5) L) (fun _ i _ => n2 - (intOf i).toNat)
    case atStart => exact ⟨0, Nat.zero_le _, rfl, by simpa [wtS] using HO9.out, hob, HGR9.out, HW9.out⟩
    case round =>
      rename World => W2
      obtain ⟨q, hq, rfl, ho2, hob2, hgr2, hoL⟩ := hrel
      have hB2' := bog3 hbW hgr2 (Nat.le_refl _)
      have hs2' := hB2'.size
      have HW2 := Lib.hid hgr2
      by_cases hltq : q < n2
      case neg =>
        obtain rfl : q = n2 := by omega
        have HN : Hid (wtF t sc m j ++ wtS t m j ⟨nd, da⟩ q = wtF t sc m (j + 1)) := by
          show _ = _
          rw [HWS.out, ← HFUL.out, HL2.out]
        clear hoL
        go_wp2_with fail
        go_roundw
        case rel => exact ⟨j + 1, by omega, by go_num, by rw [← HN.out]; exact ho2, hob2, hgr2⟩
        case measure => simp [intOf]; omega
      have HO2' := Lib.hid ho2
      have HOL := Lib.hid hoL
      have HTB := Lib.hid (hTb0.grown hgr2 hRlt)
      have HGM := Lib.hid (blk_keep HG0.out hgr2 (by intro e; injection e with e; omega))
      clear ho2 hoL
      go_wp2_with fail
      go_loopw [14, 15] (fun v i wr => ∃ (z : Nat) (f : Bool), z ≤ m5 ∧ i = .int .i64 z ∧ v = .bool f ∧ f = (L.take z).any (fun x => decide ((q : Int) ∈ lbF m.tab j x.node x.mode)) ∧ Below W2.heap.size W2 wr) (fun _ i _ => m5 - (intOf i).toNat)
      case atStart => exact ⟨0, false, Nat.zero_le _, rfl, rfl, rfl, Below.refl _ _⟩
      case round =>
        rename World => W3
        obtain ⟨z, f, hz, rfl, rfl, hf, hbl3⟩ := hrel
        have HF := Lib.hid hf
        have hs3 := hbl3.size
        clear hf
        by_cases hltz : z < m5
        case neg =>
          obtain rfl : z = m5 := by omega
          have HFB : Hid (f = blkD t m j ⟨nd, da⟩ q) := by show _ = _; rw [HF.out, HBD.out, List.take_of_length_le (by have := HL5.out; omega)]
          have ho3 := HO2'.out.below hbl3
          have hgr3 := gbel3 hgr2 hbl3
          have hoL3 := HOL.out.below hbl3
          have HLW : Hid ((wtF t sc m j ++ wtS t m j ⟨nd, da⟩ q).length ≤ 20) := by
            show _ ≤ _
            have h1 := HWL.out
            have h2 := wtS_len (t := t) (m := m) j ⟨nd, da⟩ q
            rw [List.length_append]
            omega
          cases f with
          | false =>
            have HN : Hid (wtS t m j ⟨nd, da⟩ (q + 1) = wtS t m j ⟨nd, da⟩ q) := wtS_no HFB.out.symm
            go_wp2_with fail
            go_roundw
            case rel => exact ⟨q + 1, by omega, by go_num, by rw [HN.out]; exact ho3, hob2, hgr3, hoL3⟩
            case measure => simp [intOf]; omega
          | true =>
            have HN : Hid (wtS t m j ⟨nd, da⟩ (q + 1) = wtS t m j ⟨nd, da⟩ q ++ [⟨(j : Int), (q : Int)⟩]) := wtS_yes HFB.out.symm
            have hs0 := hgr3.size
            have HHB := Lib.hid hob2
            have HGR := Lib.hid hgr3
            have HOL3 := Lib.hid hoL3
            clear hob2 hgr3 hoL3
            go_wp2_with (at_builtin; refine wpList_append_rd elW2 _ rfl (.tmp 105) (.tmp 109) rfl rfl (ho3.alloc _) rfl (Rd_one W3 #[.int .i64 j, .int .i64 q] 36 (⟨(j : Int), (q : Int)⟩ : Wt) rfl) (by have := HLW.out; omega) (by simp; omega) ?_; intro v8 w8 ho8 hg8 ha8)
            have hgr8 := grown_own2 (gall3 HGR.out (.cells #[.int .i64 j, .int .i64 q] 36)) hg8 HHB.out
            have hob8 : ∀ g, v8.ownBlock = some g → g = w.heap.size ∨ W0.heap.size ≤ g := fun g hg => by
              rcases ha8 with e | e
              · exact HHB.out g (e.symm.trans hg)
              · have e2 := hg.symm.trans e; injection e2 with e2; right; rw [e2]; simp; omega
            have hL8 := (HOL3.out.alloc (.cells #[.int .i64 j, .int .i64 q] 36)).grown' hg8 (Own.ap (HOL3.out.alloc (.cells #[.int .i64 j, .int .i64 q] 36)) (ho3.alloc (.cells #[.int .i64 j, .int .i64 q] 36)) (by decide))
            go_roundw
            case rel => exact ⟨q + 1, by omega, by go_num, by rw [HN.out, ← List.append_assoc]; exact ho8, hob8, hgr8, hL8⟩
            case measure => simp [intOf]; omega
        obtain ⟨_, hrL⟩ := (HOL.out.below hbl3).rds elL.len (by have := HL5.out; omega)
        obtain ⟨b5, o5, x, hA5, _, hb5, hx5, l0, l1, l2⟩ := hrL.atL hltz
        subst hA5
        obtain ⟨hxw, hxa⟩ := HASKL.out x (List.mem_of_getElem? hx5)
        have HTS : Hid (L.take (z + 1) = L.take z ++ [x]) := take_snoc hx5
        obtain ⟨xw, xn, xm⟩ := x
        simp only at l0 l1 l2 hxw hxa
        subst hxw
        have hG3 := blk_below HGM.out hbl3
        have HG3 := Lib.hid hG3
        cases f with
        | true =>
          have HN : Hid (true = (L.take (z + 1)).any fun x => decide ((q : Int) ∈ lbF m.tab j x.node x.mode)) := by
            show _ = _
            rw [HTS.out, List.any_append, ← HF.out]
            rfl
          clear hrL hx5 hxa l0 l1 l2 hG3
          go_wp2_with fail
          go_region
          all_goals (
            go_wp2_with fail
            go_roundw
            case rel => exact ⟨z + 1, true, by omega, by go_num, rfl, HN.out, hbl3.drew⟩
            case measure => simp [intOf]; omega)
        | false =>
          have HLB : Hid (lbF m.tab j xn xm = blkF m.tab j xn (joinF (heldF m.tab j xn) xm)) := lbF_yes hI.tab hxa
          have HN : Hid (decide ((q : Int) ∈ blkF m.tab j xn (joinF (heldF m.tab j xn) xm)) = (L.take (z + 1)).any fun x => decide ((q : Int) ∈ lbF m.tab j x.node x.mode)) := by
            show _ = _
            rw [HTS.out, List.any_append, ← HF.out]
            simp [HLB.out]
          have HIM := Lib.hid (joinF_isM (heldF_isM hI.tab j xn) hxa.isM)
          have HB1 : Hid (∀ w', Below W3.heap.size W3 w' → Calls Tryd.prog 24 #[.slice B4 k4 d4, .int .i64 (j : Int), .int .i64 xn] w' fun e w'' => e = .returned (.int .i64 (heldF m.tab j xn)) ∧ w' = w'') := fun w' hb' => held_any _ B4 k4 d4 m.tab j xn w' ((HTB.out.below hbl3).below hb')
          have HB2 : Hid (∀ w', Calls Tryd.prog 23 #[.int .i64 (heldF m.tab j xn), .int .i64 xm] w' fun e w'' => e = .returned (.int .i64 (joinF (heldF m.tab j xn) xm)) ∧ w' = w'') := fun w' => joined_t _ _ w' (heldF_isM hI.tab j xn) hxa.isM
          have HB3 : Hid (∀ w', Below W3.heap.size W3 w' → Calls Tryd.prog 22 #[.slice B4 k4 d4, .int .i64 (j : Int), .int .i64 xn, .int .i64 (joinF (heldF m.tab j xn) xm)] w' (IntsP w' (blkF m.tab j xn (joinF (heldF m.tab j xn) xm)))) := fun w' hb' => blockers_any _ B4 k4 d4 m.tab j xn _ w' ((HTB.out.below hbl3).below hb') hI.tab HIM.out
          have hbk := blkF_len m.tab j xn (joinF (heldF m.tab j xn) xm)
          have c1 : W3.drew.cell? ⟨w2.heap.size, 1, none⟩ = some (.slice B4 k4 d4) := blk_cell hG3 (i := 1) rfl
          have c2 : W3.drew.cell? ⟨b5, o5 + z * 3 + 1, none⟩ = some (.int .i64 xn) := l1
          have c3 : W3.drew.cell? ⟨b5, o5 + z * 3 + 2, none⟩ = some (.int .i64 xm) := l2
          have HLa : w2.heap.size < W3.drew.heap.size := blk_lt hG3
          have HLb : b5 < W3.drew.heap.size := hb5
          generalize hBL : blkF m.tab j xn (joinF (heldF m.tab j xn) xm) = BL at *
          generalize hJ : joinF (heldF m.tab j xn) xm = J at *
          generalize hH : heldF m.tab j xn = H at *
          clear hrL hx5 hxa hG3 hBL hJ hH l0
          go_wp2_with fail
          go_region_held3 (fun w' => w'.cell? ⟨w2.heap.size, 1, none⟩ = some (.slice B4 k4 d4) ∧ w'.cell? ⟨b5, o5 + z * 3 + 1, none⟩ = some (.int .i64 xn) ∧ w'.cell? ⟨b5, o5 + z * 3 + 2, none⟩ = some (.int .i64 xm))
            (first | exact ⟨(hb6.cell HLa).trans c1, (hb6.cell HLb).trans c2, (hb6.cell HLb).trans c3⟩ | go_keep)
            ((first
              | (go_simp; go_at_call 24; refine (HB1.out W3.drew (Below.refl W3.heap.size W3).drew).mono ?_; rintro e w4 ⟨rfl, rfl⟩)
              | (go_simp; go_at_call 23; refine (HB2.out W3.drew).mono ?_; rintro e w5 ⟨rfl, rfl⟩)
              | (go_simp; go_at_call 22; refine (HB3.out W3.drew (Below.refl W3.heap.size W3).drew).mono ?_; rintro e w6 ⟨v6, rfl, ho6, hb6⟩; obtain ⟨A6, m6, c6, rfl, hc6, hr6⟩ := ho6.rdn elI.len (by omega))
              | (go_simp; go_at_call 21; refine (isInS_any _ A6 m6 c6 BL (q : Int) w6 hr6).mono ?_; rintro e w7 ⟨rfl, rfl⟩)))
          all_goals (
            have hb36 : Below W2.heap.size W2 w6 := (hbl3.drew).trans (hb6.mono hs3)
            go_wp2_with fail
            go_roundw
            case rel => exact ⟨z + 1, _, by omega, by go_num, rfl, HN.out, hb36⟩
            case measure => simp [intOf]; omega)

theorem bel_drewN {B : Nat} {a w : World} (h : Below B a w) (n : Nat) : Below B a (w.drewN n) := h.trans ⟨rfl, rfl, rfl, Nat.le_refl _, fun _ _ => rfl⟩
section
variable {w w' : World} {A : Option Addr} {n c : Nat} {t : List Nd} {A2 : Option Addr} {m c2 : Nat} {sc : List (List Dd)} {A3 : Option Addr} {k c3 : Nat} {ps : List Int}
/-- Other picks. -/
theorem RA.picks (h : RA w A n c t A2 m c2 sc A3 k c3 ps) {B : Option Addr} {q d : Nat} {qs : List Int} (hd : q ≤ d) (hr : Rd cI 1 w 0 B q qs) (hq : q ≤ 17) : RA w A n c t A2 m c2 sc B q d qs :=
  ⟨h.hc, h.rt, h.hn, h.nm, h.hm, h.rsc, h.hm5, hd, hr, hq, h.tb⟩
theorem RA.rw (h : RA w A n c t A2 m c2 sc A3 k c3 ps) : Calls Tryd.prog 5 #[.slice A n c, .slice A2 m c2, .slice A3 k c3] w (WtsR w (rwF t sc ps)) := RunWaits_any 0 0 0 A A2 A3 n c m c2 k c3 t sc ps w h.rt h.hc h.rsc h.rps h.tb
end

section
variable {α β : Type} {cs : α → List Value} {cs2 : β → List Value} {sz sz2 : Nat} {e e2 : TypeId} {w : World} {base base2 : Nat} {v v2 : Value} {l : List α} {l2 : List β}
/-- What lies apart stays apart as the other one grows. -/
theorem Own.aptNext {s : Nat} {va va' : Value} (h : Own cs sz e w base v l) (ha : va'.ownBlock = va.ownBlock ∨ va'.ownBlock = some s) (hs : w.heap.size ≤ s) (hd : v.ownBlock = none ∨ v.ownBlock ≠ va.ownBlock) : v.ownBlock = none ∨ v.ownBlock ≠ va'.ownBlock := by
  rcases ha with e | e
  · rw [e]; exact hd
  · refine .inr fun hc => ?_
    rw [e] at hc
    have := (h.blk s hc).2
    omega
end
theorem aptSymm {a b : Option Nat} (h : a = none ∨ a ≠ b) : b = none ∨ b ≠ a := by
  rcases h with h | h
  · cases b with
    | none => exact .inl rfl
    | some k => exact .inr (by rw [h]; simp)
  · exact .inr fun e => h e.symm

section
variable {t : List Nd} {sc : List (List Dd)} {ps : List Int}
theorem VR_of_ro {z : Int} (h : z ∈ roF t sc ps) : VR t sc ps := Classical.byContradiction fun hc => by unfold roF at h; rw [onR_f hc] at h; cases h
theorem VR_of_rv' (h : rvF t sc ps ≠ []) : VR t sc ps := Classical.byContradiction fun hc => h (by unfold rvF; rw [onR_f hc])
theorem VR_of_rw {x : Wt} (h : x ∈ rwF t sc ps) : VR t sc ps := Classical.byContradiction fun hc => by unfold rwF at h; rw [onR_f hc] at h; cases h
theorem VR.vlen (h : VR t sc ps) : (rvF t sc ps).length = t.length := by unfold rvF; rw [onR_t h]; exact h.inv.vlen
/-- FnRunOrderAlone. -/
theorem row_alone (hvt : VT t) (hsc : VSc t sc) : roF t sc (rowF sc sc.length) = ints sc.length ∧ rlF t sc (rowF sc sc.length) = [] := by
  have h := VR.row hvt hsc
  obtain ⟨h1, h2, _⟩ := runM_alone hvt hsc sc.length (Nat.le_refl _)
  unfold roF rlF
  rw [onR_t h, onR_t h]
  exact ⟨h1, h2⟩
/-- FnRunOrder. -/
theorem ro_done {i : Nat} {z : Int} (hz : (roF t sc ps)[i]? = some z) : (∃ q : Nat, z = q ∧ q < sc.length ∧ (scr sc q).length ≤ cntF z ps) ∧ plF (roF t sc ps) z = i ∧ ∀ x ∈ rlF t sc ps, x.who ≠ z := by
  have hm := List.mem_of_getElem? hz
  have h := VR_of_ro hm
  have hI := h.inv
  unfold roF at hz hm ⊢
  unfold rlF
  rw [onR_t h] at hz hm ⊢
  rw [onR_t h]
  obtain ⟨q, e, hq, hp⟩ := (hI.fin z).1 hm
  refine ⟨⟨q, e, hq, ?_⟩, plF_hit hz fun j y hj hy e' => ?_, fun x hx => hI.donefree hm hx⟩
  · have := h.cnt q
    rw [hp, ← e] at this
    omega
  · subst e'
    have hj2 := (List.getElem?_eq_some_iff.1 hy)
    have := (List.getElem?_inj hj2.1 hI.nodup).1 (hy.trans hz.symm)
    omega
/-- FnRunLocksDirty. -/
theorem rl_dirty (h0 : roF t sc ps = []) {n : Nat} (hn : n < (rvF t sc ps).length) (hn2 : n < t.length) : (rvF t sc ps)[n]? = (t.map Nd.val)[n]? ∨ ∃ i : Nat, i < 4 ∧ mayF 5 t (rlF t sc ps) i n = true := by
  have h : VR t sc ps := VR_of_rv' fun e => by rw [e] at hn; simp at hn
  have hI := h.inv
  unfold roF at h0
  unfold rvF rlF
  rw [onR_t h] at h0 ⊢
  rw [onR_t h]
  rcases hI.dirty h0 h.2.1 hn2 with e | ⟨i, _, hi, h5⟩
  · exact .inl e
  · refine .inr ⟨i, hi, ?_⟩
    have hnd : IsNd t n := ⟨h.1, by omega, by omega⟩
    rw [mayF_yes hnd hI.tab]
    unfold onP
    refine List.any_eq_true.2 ⟨n, upI_self h.1.desc hn2, ?_⟩
    rw [h5]
    decide
/-- FnRunValues. -/
theorem rv_all (h : VR t sc ps) (hl : (roF t sc ps).length = sc.length) {n : Nat} {x : Nd} (hx : t[n]? = some x) : (rvF t sc ps)[n]? = some (x.val + allF n sc) := by
  have hI := h.inv
  unfold roF at hl
  unfold rvF
  rw [onR_t h] at hl ⊢
  rw [hI.vals hl (List.getElem?_eq_some_iff.1 hx).1, List.getElem?_map, hx]
  rfl
/-- FnRunOrderLocks. -/
theorem rl_none (hl : (roF t sc ps).length = sc.length) : rlF t sc ps = [] ∧ rwF t sc ps = [] := by
  by_cases h : VR t sc ps
  · have hI := h.inv
    unfold roF at hl
    unfold rlF rwF
    rw [onR_t h] at hl ⊢
    rw [onR_t h]
    refine ⟨hI.noheld hl, List.eq_nil_iff_forall_not_mem.2 fun x hx => ?_⟩
    obtain ⟨⟨i, e, hi, hn, _⟩, _⟩ := hI.wait h.1 h.2.1 hx
    exact hn ((hI.fin _).2 ⟨i, e, hi, hI.all hl hi⟩)
  · unfold rlF rwF
    exact ⟨onR_f h _, onR_f h _⟩
/-- FnRunValuesNone. -/
theorem rv_none (hvt : VT t) (hsc : VSc t sc) : rvF t sc [] = t.map Nd.val ∧ roF t sc [] = [] ∧ rlF t sc [] = [] ∧ rwF t sc [] = [] := by
  have h : VR t sc [] := ⟨hvt, hsc, by simp, fun p hp => by cases hp⟩
  have hI := h.inv
  unfold rvF roF rlF rwF
  rw [onR_t h, onR_t h, onR_t h, onR_t h]
  refine ⟨rfl, rfl, rfl, List.eq_nil_iff_forall_not_mem.2 fun x hx => ?_⟩
  obtain ⟨_, _, _, y, hy, _⟩ := hI.wait hvt hsc hx
  cases hy
/-- FnRunWaitsHeld, FnRunWaits. -/
theorem rw_held {x : Wt} (hx : x ∈ rwF t sc ps) : x.who ≠ x.tgt ∧ ∃ y ∈ rlF t sc ps, y.who = x.tgt := by
  have h := VR_of_rw hx
  have hI := h.inv
  unfold rwF at hx
  unfold rlF
  rw [onR_t h] at hx ⊢
  obtain ⟨_, _, h1, h2⟩ := hI.wait h.1 h.2.1 hx
  exact ⟨h1, h2⟩
theorem rw_block {x : Wt} (hx : x ∈ rwF t sc ps) (h16 : ps.length < 16) : x.who ∉ roF t sc ps ∧ x.tgt ∉ roF t sc ps ∧ rvF t sc (ps ++ [x.who]) = rvF t sc ps ∧ roF t sc (ps ++ [x.who]) = roF t sc ps := by
  have h := VR_of_rw hx
  have hI := h.inv
  unfold rwF at hx
  rw [onR_t h] at hx
  obtain ⟨⟨i, e, hi, h1, hp⟩, ⟨_, _, _, h2⟩, _⟩ := hI.wait h.1 h.2.1 hx
  have h3 : VR t sc (ps ++ [x.who]) := ⟨h.1, h.2.1, by simp; omega, fun p hp => by
    rcases List.mem_append.1 hp with hp | hp
    · exact h.2.2.2 p hp
    · simp only [List.mem_singleton] at hp; subst hp; omega⟩
  unfold rvF roF
  rw [onR_t h3, onR_t h, onR_t h3, onR_t h, runM_one, e, Int.toNat_natCast, hp]
  rw [e] at h1
  exact ⟨h1, h2, rfl, rfl⟩
theorem rw_valid : VW (rwF t sc ps) := by
  by_cases h : VR t sc ps
  · unfold rwF; rw [onR_t h]; exact h.inv.waits h.1 h.2.1
  · unfold rwF; rw [onR_f h]; exact ⟨by simp, fun x hx => by cases hx⟩
/-- FnRunWaitsDeadlock. -/
theorem rw_dead (h : VR t sc ps) (hn : (roF t sc ps).length ≠ sc.length) (hw : ∀ i : Nat, i < sc.length → (i : Int) ∈ roF t sc ps ∨ ∃ x ∈ rwF t sc ps, x.who = i) : ∃ a, (0 ≤ a ∧ a ≤ 3) ∧ Rch (rwF t sc ps) a a := by
  unfold roF rwF at hw
  unfold roF at hn
  unfold rwF
  rw [onR_t h] at hn ⊢
  refine h.inv.dead h.1 h.2.1 hn fun i hi => ?_
  have := hw i hi
  rw [onR_t h, onR_t h] at this
  exact this
/-- FnRunValuesStep. -/
theorem rv_step (h : VR t sc ps) {q : Nat} {p : Int} (hq : ps.length = q + 1) (hp : ps[q]? = some p) : ∃ who : Nat, p = who ∧ who < sc.length ∧ (rvF t sc ps = rvF t sc (ps.take q) ∨
    ∃ d, d ∈ scr sc who ∧ 0 ≤ d.node ∧ ∃ v, (rvF t sc (ps.take q))[d.node.toNat]? = some v ∧ rvF t sc ps = (rvF t sc (ps.take q)).set d.node.toNat (v + d.add)) := by
  have hr := h.2.2.2 p (List.mem_of_getElem? hp)
  obtain ⟨who, rfl⟩ := Int.eq_ofNat_of_zero_le hr.1
  have hw : who < sc.length := by have := hr.2; omega
  have e := runM_snoc (t := t) (sc := sc) hp
  rw [List.take_of_length_le (by omega), Int.toNat_natCast] at e
  have hq' := h.take q
  have hI := hq'.inv
  refine ⟨who, rfl, hw, ?_⟩
  unfold rvF
  rw [onR_t h, onR_t hq', e]
  rcases pickM_cases h.1 h.2.1 hI hw with h1 | ⟨d, hd, hok, hv, _⟩
  · rw [h1]; exact .inl rfl
  · have hok1 := hok.1
    have hl : d.node.toNat < (runM t sc (ps.take q)).vals.length := by rw [hI.vlen]; omega
    refine .inr ⟨d, hd, hok1.1, _, List.getElem?_eq_getElem hl, ?_⟩
    rw [hv, List.getElem?_eq_getElem hl]
    rfl
/-- One value at most has changed, of a node of the picked script. -/
theorem rv_step2 (h : VR t sc ps) {q : Nat} {p : Int} (hq : ps.length = q + 1) (hp : ps[q]? = some p) : ∃ who a : Nat, p = who ∧ who < sc.length ∧ (rvF t sc (ps.take q)).length = (rvF t sc ps).length ∧
    ∀ (i : Nat) (x y : Int), (rvF t sc ps)[i]? = some x → (rvF t sc (ps.take q))[i]? = some y → x ≠ y → i = a ∧ ∃ k : Nat, ∃ d, (scr sc who)[k]? = some d ∧ d.node = i ∧ d.add = x - y := by
  obtain ⟨who, e, hw, hh⟩ := rv_step h hq hp
  have hlen : (rvF t sc (ps.take q)).length = (rvF t sc ps).length := by rw [h.vlen, (h.take q).vlen]
  rcases hh with h1 | ⟨d, hd, h0, v, hv, h1⟩
  · refine ⟨who, 0, e, hw, hlen, fun i x y hx hy hne => ?_⟩
    rw [h1, hy] at hx
    injection hx with hx
    exact absurd hx.symm hne
  · refine ⟨who, d.node.toNat, e, hw, hlen, fun i x y hx hy hne => ?_⟩
    rw [h1, List.getElem?_set] at hx
    by_cases e2 : d.node.toNat = i
    · rw [if_pos e2] at hx
      rw [e2, hy] at hv
      injection hv with hv
      split at hx
      · injection hx with hx
        obtain ⟨k, hk⟩ := List.mem_iff_getElem?.1 hd
        exact ⟨e2.symm, k, d, hk, by omega, by omega⟩
      · cases hx
    · rw [if_neg e2, hy] at hx
      injection hx with hx
      exact absurd hx.symm hne
theorem rv_bd {i : Nat} {x : Int} (hx : (rvF t sc ps)[i]? = some x) : -1800 ≤ x ∧ x ≤ 1800 := by
  have h : VR t sc ps := VR_of_rv' fun e => by rw [e] at hx; simp at hx
  unfold rvF at hx
  rw [onR_t h] at hx
  exact h.bnd x (List.mem_of_getElem? hx)
theorem allF_bd {t : List Nd} (n : Int) : ∀ (sc : List (List Dd)), (∀ s ∈ sc, s.length ≤ 3 ∧ ∀ d ∈ s, OkDo t d) → -(150 * (sc.length : Int)) ≤ allF n sc ∧ allF n sc ≤ 150 * (sc.length : Int)
  | [], _ => by simp [allF]
  | s :: r, h => by
    have ih := allF_bd n r fun x hx => h x (List.mem_cons_of_mem _ hx)
    obtain ⟨h1, h2⟩ := h s (List.mem_cons_self ..)
    have hb := sumN_bd n s h2
    rw [allF, List.length_cons]
    omega
theorem VR_of_ro' (h : roF t sc ps ≠ []) : VR t sc ps := Classical.byContradiction fun hc => h (by unfold roF; rw [onR_f hc])
theorem VR.more' (h : VR t sc ps) (h16 : ps.length < 16) {z : Int} (hz : z ∈ roF t sc ps) : rvF t sc (ps ++ [z]) = rvF t sc ps ∧ roF t sc (ps ++ [z]) = roF t sc ps := by
  unfold roF at hz
  rw [onR_t h] at hz
  have hI := h.inv
  have hr := hI.finr hz
  have h2 : VR t sc (ps ++ [z]) := ⟨h.1, h.2.1, by simp; omega, fun p hp => by
    rcases List.mem_append.1 hp with hp | hp
    · exact h.2.2.2 p hp
    · simp only [List.mem_singleton] at hp; subst hp; exact hr⟩
  unfold rvF roF
  rw [onR_t h2, onR_t h, onR_t h2, onR_t h, runM_one, hI.picked hz]
  exact ⟨rfl, rfl⟩
end

theorem RA.rwS {w : World} {A : Option Addr} {n c : Nat} {t : List Nd} {A2 : Option Addr} {m c2 : Nat} {sc : List (List Dd)} {A3 : Option Addr} {k c3 : Nat} {ps : List Int} (h : RA w A n c t A2 m c2 sc A3 k c3 ps) : Calls Tryd.prog 7 #[.slice A n c, .slice A2 m c2, .slice A3 k c3] w (WtsR w (rwF t sc ps)) := RunWaitsS_any 0 0 0 A A2 A3 n c m c2 k c3 t sc ps w h.rt h.hc h.nm h.rsc h.rps
theorem equalWaits_t (lo lo2 : Nat) (A A2 : Option Addr) (n c n2 c2 : Nat) (l : List Wt) (w : World) (hr : Rd cW 2 w lo A n l) (hr2 : Rd cW 2 w lo2 A2 n2 l) :
    Calls Tryd.prog 6 #[.slice A n c, .slice A2 n2 c2] w fun e w' => e = .returned (.bool true) ∧ Below w.heap.size w w' := by
  have hn := hr.le
  obtain rfl : n2 = n := hr2.len.symm.trans hr.len
  go_enter Tryd.func6, Tryd.ntmps6
  go_wp2_with fail
  go_loopw [5] (fun i wr => ∃ k : Nat, k ≤ n2 ∧ i = .int .i64 k ∧ Below w.heap.size w wr) (fun i _ => n2 - (intOf i).toNat)
  case atStart => exact ⟨0, Nat.zero_le _, rfl, Below.refl _ _⟩
  case round =>
    obtain ⟨k, hk, rfl, hbl⟩ := hrel
    by_cases hlt : k < n2
    case neg =>
      go_wp2_with fail
      go_ret
      exact ⟨rfl, hbl⟩
    obtain ⟨b, o, x, rfl, _, hb, hx, g0, g1⟩ := (hr.below hbl).atW hlt
    obtain ⟨b2, o2, y, rfl, _, hb2, hy, d0, d1⟩ := (hr2.below hbl).atW hlt
    rw [hx] at hy
    injection hy with hy
    subst hy
    have a0 := aft g0
    have a1 := aft g1
    have b0 := aft d0
    have b1 := aft d1
    clear hx hr hr2
    go_wp2_with fail
    refine wp_region_after (by kernel_rfl) (by kernel_rfl) ?_
    repeat (go_big_quiet_step (fail))
    refine wpQuiet_nil ?_
    intro w1 hb1
    go_wp2_with fail
    go_roundw
    case rel => exact ⟨k + 1, by omega, by go_num, hbl.trans (hb1.mono hbl.size)⟩
    case measure => simp [intOf]; omega

theorem markL_nil {f : Int → Bool} (h : markL f = []) : ∀ j : Nat, j < 4 → f j = false := by
  intro j hj
  cases hf : f j with
  | false => rfl
  | true =>
    have : (j : Int) ∈ markL f := by
      unfold markL
      refine List.mem_filter.2 ⟨?_, hf⟩
      match j, hj with
      | 0, _ | 1, _ | 2, _ | 3, _ => simp
    rw [h] at this
    cases this
set_option maxRecDepth 100000 in
set_option maxHeartbeats 6400000 in
theorem lawRunWaitsDeadlock (A : Option Addr) (n c : Nat) (zs : List Int) (w : World) (hn : n ≤ 1048576) (hr : Rd cB 1 w 0 A n zs) (hc : n ≤ c) (hz : ∀ (k : Nat) (z : Int), zs[k]? = some z → 0 ≤ z ∧ z ≤ 255) (hT : Tb w) :
    Calls Tryd.prog 3 #[.slice A n c] w fun e w' => e = .returned (.bool true) ∧ Below w.heap.size w w' := by
  have hn' : (n : Int) ≤ 1048576 := by omega
  go_enter Tryd.func3, Tryd.ntmps3
  go_wp2_with fail
  refine (DrawRunWaits_any A n c zs _ hr hc hz).mono ?_
  intro e w1 hD
  obtain ⟨A1, n1, c1, t, A2, m, c2, sc, A3, k, c3, ps, rfl, hR, hb1⟩ := hD.ra hT
  have HR := Lib.hid hR
  clear hR hD hr hz
  go_wp2_with fail
  refine HR.out.rw.mono ?_
  rintro e w2 ⟨B4, k4, d4, rfl, hd4, hr4, hb2⟩
  have hB2 := bel_next hb1 hb2
  have HR2 := Lib.hid (HR.out.below hb2)
  have HL4 := Lib.hid hr4
  have hk4 : k4 ≤ 12 := by have := hr4.len; have := rwF_len (t := t) (sc := sc) (ps := ps); omega
  clear hr4
  go_wp2_with fail
  refine HR2.out.rwS.mono ?_
  rintro e w3 ⟨B5, k5, d5, rfl, hd5, hr5, hb3⟩
  have hB3 := bel_next hB2 hb3
  have HR3 := Lib.hid (HR2.out.below hb3)
  have HEQ := Lib.hid (equalWaits_t _ _ B4 B5 k4 d4 k5 d5 _ w3 (HL4.out.below hb3) hr5)
  have HL3 := Lib.hid (HL4.out.below hb3)
  clear hr5 HL4
  go_wp2_with fail
  refine HEQ.out.mono ?_
  rintro e w4 ⟨rfl, hb4⟩
  have hB4 := bel_next hB3 hb4
  have HR4 := Lib.hid (HR3.out.below hb4)
  have HL4 := Lib.hid (HL3.out.below hb4)
  clear HL3 HEQ HR HR2 HR3
  have hn113 := HR4.out.hn
  have hm5 := HR4.out.hm5
  have hk17 := HR4.out.hk17
  have HEND : Hid (∀ w' : World, Below w4.heap.size w4 w' → Calls Tryd.prog 7 #[.slice A1 n1 c1, .slice A2 m c2, .slice A3 k c3] w' (WtsR w' (rwF t sc ps))) := fun w' hb => (HR4.out.below hb).rwS
  have HEQ : Hid (∀ (w' : World) (lo6 : Nat) (B6 : Option Addr) (k6 d6 : Nat), Below w4.heap.size w4 w' → Rd cW 2 w' lo6 B6 k6 (rwF t sc ps) → Calls Tryd.prog 6 #[.slice B4 k4 d4, .slice B6 k6 d6] w' fun e w'' => e = .returned (.bool true) ∧ Below w'.heap.size w' w'') := fun w' lo6 B6 k6 d6 hb hr6 => equalWaits_t _ lo6 B4 B6 k4 d4 k6 d6 _ w' (HL4.out.below hb) hr6
  go_wp2_with fail
  refine HR4.out.ro.mono ?_
  rintro e w5 ⟨B7, k7, d7, rfl, hd7, hr7, hb5⟩
  have hB5 := bel_next hB4 hb5
  have hlen7 := hr7.len
  by_cases hkm : k7 = m
  case pos =>
    subst hkm
    clear hr7 hlen7
    go_wp2_with fail
    refine (HEND.out w5 hb5).mono ?_
    rintro e w97 ⟨B6, k6, d6, rfl, hd6, hr6, hb97⟩
    have HE6 := Lib.hid (HEQ.out w97 _ B6 k6 d6 (Below.trans hb5 (hb97.mono (Below.size hb5))) hr6)
    clear hr6
    go_wp2_with fail
    refine HE6.out.mono ?_
    rintro e w98 ⟨rfl, hb98⟩
    go_wp2_with fail
    go_ret
    exact ⟨rfl, bel_next (bel_next hB5 hb97) hb98⟩
  have hkm' : ((k7 : Int) == (m : Int)) = false := by simp; omega
  have HNE : Hid ((roF t sc ps).length ≠ sc.length) := by show _ ≠ _; rw [hlen7, HR4.out.rsc.len]; exact hkm
  have HDL := Lib.hid (DeadlockOf_t _ B4 k4 d4 _ w5 (HL4.out.below hb5) rw_valid)
  clear hr7 hlen7 hkm
  go_wp2_with fail
  refine HDL.out.mono ?_
  rintro e w6 ⟨f, hf, v6, rfl, ho6, hb6⟩
  have hB6 := bel_next hB5 hb6
  have hb46 := bel_next hb5 hb6
  obtain ⟨A6, m6, c6, rfl, hc6, hr6⟩ := ho6.rdn elI.len (by have := markL_len f; omega)
  by_cases h0 : m6 = 0
  case neg =>
    have h0' : (0 : Int) < (m6 : Int) := by omega
    clear hr6 ho6 h0 hf
    go_wp2_with fail
    refine (HEND.out w6 hb46).mono ?_
    rintro e w97 ⟨B6, k6, d6, rfl, hd6, hr6, hb97⟩
    have HE6 := Lib.hid (HEQ.out w97 _ B6 k6 d6 (Below.trans hb46 (hb97.mono (Below.size hb46))) hr6)
    clear hr6
    go_wp2_with fail
    refine HE6.out.mono ?_
    rintro e w98 ⟨rfl, hb98⟩
    go_wp2_with fail
    go_ret
    exact ⟨rfl, bel_next (bel_next hB6 hb97) hb98⟩
  subst h0
  have hno : ∀ a : Int, (0 ≤ a ∧ a ≤ 3) → ¬ Rch (rwF t sc ps) a a := fun a ha hc => by
    obtain ⟨j, rfl⟩ := Int.eq_ofNat_of_zero_le ha.1
    have h1 := markL_nil (List.eq_nil_of_length_eq_zero hr6.len) j (by omega)
    rw [(hf j (by omega)).2 hc] at h1
    cases h1
  have HNO := Lib.hid hno
  have HR6 := Lib.hid (HR4.out.below hb46)
  have HL6 := Lib.hid (HL4.out.below hb46)
  clear hr6 ho6 hf hno HEND HEQ HR4 HL4
  go_wp2_with fail
  refine HR6.out.ro.mono ?_
  rintro e w7 ⟨B8, k8, d8, rfl, hd8, hr8, hb7⟩
  have hB7 := bel_next hB6 hb7
  have HR7 := Lib.hid (HR6.out.below hb7)
  have HL7 := Lib.hid (HL6.out.below hb7)
  have HO7 := Lib.hid hr8
  have HV := Lib.hid (ValidScripts_any 0 0 A1 A2 n1 c1 m c2 t sc w7 HR7.out.rt HR7.out.hc HR7.out.rsc)
  clear hr8 HR6 HL6
  by_cases hP : VT t ∧ VSc t sc
  case neg =>
    rw [scB_f hP] at HV
    clear hP
    go_wp2_with fail
    refine HV.out.mono ?_
    rintro e w8 ⟨rfl, hb8⟩
    go_wp2_with fail
    go_ret
    exact ⟨rfl, bel_next hB7 hb8⟩
  rw [scB_t hP.1 hP.2] at HV
  clear hP
  go_wp2_with fail
  refine HV.out.mono ?_
  rintro e w8 ⟨rfl, hb8⟩
  have hB8 := bel_next hB7 hb8
  have HR8 := Lib.hid (HR7.out.below hb8)
  have HL8 := Lib.hid (HL7.out.below hb8)
  have HO8 := Lib.hid (HO7.out.below hb8)
  clear HR7 HL7 HO7 HV
  go_wp2_with fail
  go_loopw [8] (fun i wr => ∃ j : Nat, j ≤ m ∧ i = .int .i64 j ∧ Below w8.heap.size w8 wr ∧ ∀ q : Nat, q < j → (q : Int) ∈ roF t sc ps ∨ ∃ x ∈ rwF t sc ps, x.who = q) (fun i _ => m - (intOf i).toNat)
  case atStart => exact ⟨0, Nat.zero_le _, rfl, Below.refl _ _, fun q hq => by omega⟩
  case round =>
    rename World => W1
    obtain ⟨j, hj, rfl, hbl, hall⟩ := hrel
    have HALL := Lib.hid hall
    have hB := bel_next hB8 hbl
    have HRW := Lib.hid (HR8.out.below hbl)
    clear hall
    by_cases hlt : j < m
    case neg =>
      have hrv : rvF t sc ps = [] := Classical.byContradiction fun hc => by
        obtain ⟨a, ha, hr⟩ := rw_dead (VR_of_rv' hc) HNE.out fun i hi => HALL.out i (by have := HR8.out.rsc.len; omega)
        exact HNO.out a ha hr
      have HRV := Lib.hid hrv
      clear hrv
      go_wp2_with fail
      refine HRW.out.rv.mono ?_
      rintro e w9 ⟨B9, k9, d9, rfl, hd9, hr9, hb9⟩
      obtain rfl : k9 = 0 := by have := hr9.len; rw [HRV.out] at this; exact this.symm
      clear hr9
      go_wp2_with fail
      go_ret
      exact ⟨rfl, bel_next hB hb9⟩
    have HII := Lib.hid (isIn_any _ B8 k8 d8 _ (j : Int) W1 (HO8.out.below hbl))
    obtain ⟨ib, hib⟩ : ∃ ib, ib = decide ((j : Int) ∈ roF t sc ps) := ⟨_, rfl⟩
    rw [← hib] at HII
    have HIB : Hid (ib = true → (j : Int) ∈ roF t sc ps) := fun h => of_decide_eq_true (by rw [← hib]; exact h)
    clear hib
    go_wp2_with fail
    refine HII.out.mono ?_
    rintro e w9 ⟨rfl, rfl⟩
    go_wp2_with fail
    go_loopw [9, 10] (fun v i wr => ∃ (a : Nat) (sb : Bool), a ≤ k4 ∧ i = .int .i64 a ∧ v = .bool sb ∧ (sb = true → (j : Int) ∈ roF t sc ps ∨ ∃ x ∈ rwF t sc ps, x.who = j) ∧ Below w8.heap.size w8 wr) (fun _ i _ => k4 - (intOf i).toNat)
    case atStart => exact ⟨0, ib, Nat.zero_le _, rfl, rfl, fun h => .inl (HIB.out h), hbl⟩
    case round =>
      rename World => W2
      obtain ⟨a, sb, ha, rfl, rfl, h1, hbl2⟩ := hrel
      have H1 := Lib.hid h1
      clear h1
      by_cases hlt2 : a < k4
      case neg =>
        cases sb with
        | false =>
          go_wp2_with fail
          go_ret
          exact ⟨rfl, bel_next hB8 hbl2⟩
        | true =>
          have HN : Hid (∀ q : Nat, q < j + 1 → (q : Int) ∈ roF t sc ps ∨ ∃ x ∈ rwF t sc ps, x.who = q) := fun q hq => by
            by_cases e : q = j
            · subst e; exact H1.out rfl
            · exact HALL.out q (by omega)
          go_wp2_with fail
          go_roundw
          case rel => exact ⟨j + 1, by omega, by go_num, hbl2, HN.out⟩
          case measure => simp [intOf]; omega
      obtain ⟨b, o, x, hB4', _, hb, hx, g0, g1⟩ := (HL8.out.below hbl2).atW hlt2
      subst hB4'
      have hxm := List.mem_of_getElem? hx
      have HXM := Lib.hid hxm
      obtain ⟨xw, xf⟩ := x
      simp only at g0 g1
      clear hx hxm
      cases sb with
      | true =>
        go_wp2_with fail
        go_roundw
        case rel => exact ⟨a + 1, true, by omega, by go_num, rfl, H1.out, hbl2⟩
        case measure => simp [intOf]; omega
      | false =>
        by_cases e : xw = (j : Int)
        · have HN : Hid ((j : Int) ∈ roF t sc ps ∨ ∃ x ∈ rwF t sc ps, x.who = j) := .inr ⟨_, HXM.out, e⟩
          subst e
          go_wp2_with fail
          go_roundw
          case rel => exact ⟨a + 1, true, by omega, by go_num, rfl, fun _ => HN.out, hbl2⟩
          case measure => simp [intOf]; omega
        · have e' : (xw == (j : Int)) = false := by simpa using e
          clear e
          go_wp2_with fail
          go_roundw
          case rel => exact ⟨a + 1, false, by omega, by go_num, rfl, H1.out, hbl2⟩
          case measure => simp [intOf]; omega
end Go.Proofs.YtijabengfdckkaaDoor
