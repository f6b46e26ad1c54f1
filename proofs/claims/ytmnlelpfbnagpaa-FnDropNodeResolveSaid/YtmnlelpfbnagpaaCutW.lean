/- The walks over strings.Cut at a slash, and over CutPrefix. -/
import Derived.Test.YtmnlelpfbnagpaaPathP
import Derived.Test.YtmnlelpfbnagpaaShelfA
import Derived.Test.YtmnlelpfbnagpaaWords6
import Derived.Lib.CutLaws
namespace Go.Proofs.Ytmnlelpfbnagpaa
open Go.RowKit

theorem pcs_in : ∀ (l : List UInt8) (i : Nat), l[i]? = some 47 → (∀ k, k < i → l[k]? ≠ some 47) → pcs l = l.take i :: pcs (l.drop (i + 1))
  | [], i, h, _ => by simp at h
  | c :: l, 0, h, _ => by simp at h; subst h; simp [pcs]
  | c :: l, i + 1, h, hk => by
    have hc : c ≠ 47 := by have := hk 0 (by omega); simpa using this
    have ih := pcs_in l i (by simpa using h) (fun k hki => by have := hk (k + 1) (by omega); simpa using this)
    rw [pcs, if_neg hc, ih]
    simp
/-- What Cut at a slash hands back. -/
def CutTo (s p q : ByteArray) (f : Bool) : Prop := if f then pcs s.data.toList = p.data.toList :: pcs q.data.toList else pcs s.data.toList = [p.data.toList]
theorem stringslite_Cut1 (s : ByteArray) (w : World) (hs : s.size ≤ 1000000000000) :
    Calls Try.prog 62 #[.string s, .string ⟨#[47]⟩] w fun e w' => (∃ p q f, e = .returned (.tuple #[.string p, .string q, .bool f]) ∧ CutTo s p q f) ∧ Below w.heap.size w w' := by
  have HI := Lib.hid (Try.stringslite_Index_one s 47 w)
  rcases Lib.indexB_cases s ⟨#[47]⟩ with hix | ⟨i, hix, hroom⟩
  · have hix' : Lib.indexByte s.data.toList 47 = -1 := by rw [← Lib.index_one]; exact hix
    have HP : Hid (CutTo s s ⟨#[]⟩ false) := by
      show CutTo _ _ _ _
      have h1 := Lib.indexByte_none hix'
      unfold CutTo
      rw [if_neg (by simp)]
      exact pcs_one _ (fun c hc e => by
        obtain ⟨k, hk⟩ := List.getElem?_of_mem hc
        exact h1 k (e ▸ hk))
    clear hix
    go_enter Try.func62, Try.ntmps62
    go_wp2_with fail
    refine HI.out.mono ?_
    rintro e w' ⟨rfl, rfl⟩
    rw [hix']
    go_wp2
    go_ret3
    exact ⟨⟨_, _, _, rfl, HP.out⟩, Below.refl _ _⟩
  · have hix' : Lib.indexByte s.data.toList 47 = i := by rw [← Lib.index_one]; exact hix
    have hr1 : i + 1 ≤ s.size := hroom
    have HP : Hid (CutTo s (s.extract 0 i) (s.extract (i + 1) s.size) true) := by
      show CutTo _ _ _ _
      obtain ⟨h1, h2⟩ := Lib.indexByte_some hix'
      unfold CutTo
      rw [if_pos rfl, pcs_in _ i h1 h2, Lib.extract_data, Lib.extract_data, Nat.sub_zero, List.drop_zero]
      congr 2
      rw [List.take_of_length_le]
      rw [List.length_drop, ← Lib.size_eq]; omega
    have c1 : (0 : Int) ≤ ↑i := by omega
    have c2 : (↑i : Int) ≤ ↑s.size := by omega
    have c3 : (0 : Int) ≤ ↑i + 1 := by omega
    have c4 : (↑i + 1 : Int) ≤ ↑s.size := by omega
    have c5 : (↑i : Int) ≤ 1000000000000 := by omega
    have c6 : IntKind.i64.wrap ((i : Int) + 1) = (i : Int) + 1 := IntWalk.i64_in _ (by omega)
    clear hix hroom
    go_enter Try.func62, Try.ntmps62
    go_wp2_with fail
    refine HI.out.mono ?_
    rintro e w' ⟨rfl, rfl⟩
    rw [hix']
    go_wp2
    go_region
    all_goals
      go_wp2
      go_ret3
      exact ⟨⟨_, _, _, rfl, HP.out⟩, (Below.refl _ _).drew⟩
theorem Cut1 (s : ByteArray) (w : World) (hs : s.size ≤ 1000000000000) :
    Calls Try.prog 37 #[.string s, .string ⟨#[47]⟩] w fun e w' => (∃ p q f, e = .returned (.tuple #[.string p, .string q, .bool f]) ∧ CutTo s p q f) ∧ Below w.heap.size w w' := by
  go_enter Try.func37, Try.ntmps37
  go_wp2_with fail
  refine (stringslite_Cut1 s _ hs).mono ?_
  rintro e w1 ⟨⟨p, q, f, rfl, hc⟩, hb⟩
  go_wp2
  go_ret3
  exact ⟨⟨_, _, _, rfl, hc⟩, hb⟩
theorem CutPrefix_f (s : ByteArray) (w : World) (h : ∀ r, s.data.toList ≠ 47 :: r) :
    Calls Try.prog 36 #[.string s, .string ⟨#[47]⟩] w fun e w' => e = .returned (.tuple #[.string s, .bool false]) ∧ w = w' := by
  refine (Try.strings_CutPrefix s ⟨#[47]⟩ w).mono ?_
  rintro e w' ⟨rfl, rfl⟩
  have hf : Lib.hasPrefix s.data.toList [47] = false := by
    unfold Lib.hasPrefix
    cases hd : s.data.toList with
    | nil => rfl
    | cons c r =>
      have : c ≠ 47 := fun e => h r (by rw [hd, e])
      simp [List.isPrefixOf, Ne.symm this]
  have ht : Lib.trimPrefix s.data.toList [47] = s.data.toList := by unfold Lib.trimPrefix; rw [hf]; rfl
  have e1 : (⟨(Lib.trimPrefix s.data.toList [47]).toArray⟩ : ByteArray) = s := by rw [ht]
  have e2 : (⟨#[47]⟩ : ByteArray).data.toList = [47] := rfl
  rw [e2, e1, hf]
  exact ⟨rfl, rfl⟩
theorem CutPrefix_t (s : ByteArray) (r : List UInt8) (w : World) (h : s.data.toList = 47 :: r) :
    Calls Try.prog 36 #[.string s, .string ⟨#[47]⟩] w fun e w' => e = .returned (.tuple #[.string ⟨r.toArray⟩, .bool true]) ∧ w = w' := by
  refine (Try.strings_CutPrefix s ⟨#[47]⟩ w).mono ?_
  rintro e w' ⟨rfl, rfl⟩
  have e2 : (⟨#[47]⟩ : ByteArray).data.toList = [47] := rfl
  have hf : Lib.hasPrefix (47 :: r) [47] = true := by unfold Lib.hasPrefix; simp [List.isPrefixOf]
  have ht : Lib.trimPrefix (47 :: r) [47] = r := by unfold Lib.trimPrefix; rw [hf]; rfl
  rw [e2, h, ht, hf]
  exact ⟨rfl, rfl⟩
end Go.Proofs.Ytmnlelpfbnagpaa
