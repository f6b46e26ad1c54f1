/- The walk over ResolvePath. -/
import Derived.Test.YtmnlelpfbnagpaaCutW
import Derived.Test.YtmnlelpfbnagpaaTreeV3
import Derived.Test.YtmnlelpfbnagpaaPathW
namespace Go.Proofs.Ytmnlelpfbnagpaa
open Go.RowKit

def strOf : Value → ByteArray
  | .string s => s
  | _ => ⟨#[]⟩
/-- How far the way down has come. -/
def DnTo (t : List Nd) (s : List UInt8) (r : ByteArray) (a : Int) (f : Bool) : Prop := if f then dnP t 0 (pcs s) = dnP t a (pcs r.data.toList) else dnP t 0 (pcs s) = a
theorem DnTo.more {t : List Nd} {s : List UInt8} {r : ByteArray} {a : Int} (h : DnTo t s r a true) {p q : ByteArray} {f : Bool} (hc : CutTo r p q f) :
    (kidF t a p 0 < 0 → dnP t 0 (pcs s) = -1) ∧ (0 ≤ kidF t a p 0 → DnTo t s q (kidF t a p 0) f) := by
  unfold DnTo at h ⊢
  rw [if_pos rfl] at h
  unfold CutTo at hc
  have e : (⟨p.data.toList.toArray⟩ : ByteArray) = p := rfl
  cases f with
  | false =>
    rw [if_neg (by simp)] at hc
    rw [hc, dnP, e] at h
    constructor
    · intro hk; rw [h, if_pos hk]
    · intro hk; rw [if_neg (by simp), h, if_neg (by omega), dnP]
  | true =>
    rw [if_pos rfl] at hc
    rw [hc, dnP, e] at h
    constructor
    · intro hk; rw [h, if_pos hk]
    · intro hk; rw [if_pos rfl, h, if_neg (by omega)]
theorem CutTo.size {s p q : ByteArray} {f : Bool} (h : CutTo s p q f) (hf : f = true) : (pcs q.data.toList).length < (pcs s.data.toList).length := by
  unfold CutTo at h
  rw [if_pos hf] at h
  rw [h]; simp
theorem CutTo.room {s p q : ByteArray} {f : Bool} (h : CutTo s p q f) (hf : f = true) : q.size ≤ s.size := by
  unfold CutTo at h
  rw [if_pos hf] at h
  have h1 := joinP_pcs s.data.toList
  rw [h] at h1
  have h2 : joinP (p.data.toList :: pcs q.data.toList) = 47 :: (p.data.toList ++ joinP (pcs q.data.toList)) := rfl
  rw [h2, joinP_pcs] at h1
  have := congrArg List.length h1
  simp only [List.length_cons, List.length_append] at this
  rw [Lib.size_eq, Lib.size_eq]; omega
def restOf (v f : Value) : Nat := match v, f with
  | .string r, .bool true => (pcs r.data.toList).length + 1
  | _, _ => 0
def NoSl (s : List UInt8) : Prop := ∀ r, s ≠ 47 :: r
theorem rsF_nosl {t : List Nd} {s : List UInt8} (h : NoSl s) : rsF t s = -1 := by
  unfold rsF
  split
  · cases s with
    | nil => rfl
    | cons c r =>
      have : c ≠ 47 := fun e => h r (by rw [e])
      show (if c = 47 then _ else (-1 : Int)) = -1
      rw [if_neg this]
  · rfl
theorem ResolvePath_n (lo : Nat) (A : Option Addr) (n c : Nat) (t : List Nd) (s : ByteArray) (w : World) (hr : Rd cN 3 w lo A n t) (hc : n ≤ c) (h : ¬ VT t) :
    Calls Try.prog 13 #[.slice A n c, .string s] w fun e w' => e = .returned (.int .i64 (rsF t s.data.toList)) ∧ Below w.heap.size w w' := by
  have HC := Lib.hid (ValidTree_f lo A n c t w hr hc h)
  rw [rsF_no h]
  clear h
  go_enter Try.func13, Try.ntmps13
  go_wp2_with fail
  refine HC.out.mono ?_
  rintro e w1 ⟨rfl, hb1⟩
  go_wp2_with fail
  go_ret
  exact ⟨rfl, hb1⟩
set_option maxHeartbeats 1000000 in
theorem ResolvePath_any (lo : Nat) (A : Option Addr) (n c : Nat) (t : List Nd) (s : ByteArray) (w : World) (hr : Rd cN 3 w lo A n t) (hc : n ≤ c) (hs : s.size ≤ 1000000000) :
    Calls Try.prog 13 #[.slice A n c, .string s] w fun e w' => e = .returned (.int .i64 (rsF t s.data.toList)) ∧ Below w.heap.size w w' := by
  by_cases h : VT t
  case neg => exact ResolvePath_n lo A n c t s w hr hc h
  have HC := Lib.hid (ValidTree_t lo A n c t w hr hc h)
  by_cases hN : NoSl s.data.toList
  · have HN := Lib.hid hN
    rw [rsF_nosl hN]
    clear hN h
    go_enter Try.func13, Try.ntmps13
    go_wp2_with fail
    refine HC.out.mono ?_
    rintro e w1 ⟨rfl, hb1⟩
    go_wp2_with fail
    refine (CutPrefix_f s _ HN.out).mono ?_
    rintro e w2 ⟨rfl, rfl⟩
    go_wp2_with fail
    go_ret
    exact ⟨rfl, hb1⟩
  obtain ⟨r, hr0⟩ : ∃ r, s.data.toList = 47 :: r := Classical.byContradiction fun hh => hN fun r e => hh ⟨r, e⟩
  have HR := Lib.hid hr0
  have hsz : s.size = r.length + 1 := by rw [Lib.size_eq, hr0]; rfl
  have hrs : rsF t s.data.toList = if r = [] then 0 else dnP t 0 (pcs r) := by unfold rsF; rw [if_pos h, hr0]; rfl
  rw [hrs]
  clear hrs hr0 hN h
  by_cases hr1 : r = []
  · subst hr1
    rw [if_pos rfl]
    go_enter Try.func13, Try.ntmps13
    go_wp2_with fail
    refine HC.out.mono ?_
    rintro e w1 ⟨rfl, hb1⟩
    go_wp2_with fail
    refine (CutPrefix_t s _ _ HR.out).mono ?_
    rintro e w2 ⟨rfl, rfl⟩
    go_wp2_with fail
    go_ret
    exact ⟨rfl, hb1⟩
  rw [if_neg hr1]
  obtain ⟨R, hR⟩ : ∃ R : ByteArray, R = ⟨r.toArray⟩ := ⟨_, rfl⟩
  have hRr : R.data.toList = r := by rw [hR]
  have hE : R.toList.isEmpty = false := by
    rw [Lib.toList_data, hRr]
    cases r with
    | nil => exact absurd rfl hr1
    | cons _ _ => rfl
  have HRS : Hid (R.size < 1000000000) := by show _ < _; rw [Lib.size_eq, hRr]; omega
  have HRR := Lib.hid hRr
  have HCP : Hid (∀ w, Calls Try.prog 36 #[.string s, .string ⟨#[47]⟩] w fun e w' => e = .returned (.tuple #[.string R, .bool true]) ∧ w = w') := by
    intro w; rw [hR]; exact CutPrefix_t s r w HR.out
  clear hR hRr hr1 hsz
  go_enter Try.func13, Try.ntmps13
  go_wp2_with fail
  refine HC.out.mono ?_
  rintro e w1 ⟨rfl, hb1⟩
  go_wp2_with fail
  refine (HCP.out _).mono ?_
  rintro e w2 ⟨rfl, rfl⟩
  go_wp2_with fail
  go_loopw [5, 7, 8, 9] (fun v5 v7 v8 _ wr => ∃ (q : ByteArray) (a : Int) (f : Bool), v5 = .string q ∧ v7 = .int .i64 a ∧ v8 = .bool f ∧ (f = true → q.size ≤ 1000000000) ∧ Below w.heap.size w wr ∧ 0 ≤ a ∧ Hid (DnTo t r q a f)) (fun v5 _ v8 _ _ => restOf v5 v8)
  case atStart => exact ⟨R, 0, true, rfl, rfl, rfl, fun _ => by have := HRS.out; omega, hb1, by omega, by show DnTo _ _ _ _ _; unfold DnTo; rw [if_pos rfl, HRR.out]⟩
  case round =>
    rename World => W1
    obtain ⟨q, a, f, rfl, rfl, rfl, hq, hbl, ha, HD⟩ := hrel
    have hs1 := hbl.size
    cases f with
    | false =>
      go_wp2_with fail
      go_ret
      exact ⟨ret_int (by have := HD.out; unfold DnTo at this; rw [if_neg (by simp)] at this; rw [this]), hbl⟩
    | true =>
      have hq1 := hq rfl
      clear hq
      go_wp2_with fail
      refine (Cut1 q _ (by omega)).mono ?_
      rintro e w3 ⟨⟨p, q', f', rfl, hct⟩, hb3⟩
      have hbl3 := hbl.trans (hb3.mono hs1)
      have HCT := Lib.hid hct
      have HKI := Lib.hid (kidIn_any lo A n c t a p _ (hr.below hbl3))
      have HDM := Lib.hid (HD.out.more hct)
      clear hct
      generalize kidF t a p 0 = z at HKI HDM
      go_wp2_with fail
      refine HKI.out.mono ?_
      rintro e w4 ⟨rfl, hb4⟩
      have hbl4 := hbl3.trans (hb4.mono (by have := hb3.size; omega))
      by_cases hz : z < 0
      · go_wp2_with fail
        go_ret
        exact ⟨ret_int (by rw [HDM.out.1 hz]), hbl4⟩
      · go_wp2_with fail
        go_roundw
        case rel => exact ⟨q', z, f', rfl, rfl, rfl, fun e => by have := HCT.out.room e; omega, hbl4, by omega, HDM.out.2 (by omega)⟩
        case measure => 
          show restOf _ _ < restOf _ _
          cases f' with
          | false => simp [restOf]
          | true => have := HCT.out.size rfl; simp only [restOf]; omega
end Go.Proofs.Ytmnlelpfbnagpaa
