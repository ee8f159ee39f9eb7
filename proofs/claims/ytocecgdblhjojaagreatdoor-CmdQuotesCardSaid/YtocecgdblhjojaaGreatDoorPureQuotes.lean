/-
  CmdQuotes, the plain law: both quotings of a text tell the same bytes.
-/
import Derived.Test.YtocecgdblhjojaaGreatDoorPQuotesx1
namespace Go.Proofs.YtocecgdblhjojaaGreatDoor.Pure
open Go.RowKit Go.Proofs.YtocecgdblhjojaaGreatDoor.PQuotes Go.Proofs.YtocecgdblhjojaaGreatDoorW.PrintWords Go.Proofs.YtocecgdblhjojaaGreatDoorW.PrintLast

theorem strOfNums_append (xs ys : List Int) : strOfNums (xs ++ ys) = strOfNums xs ++ strOfNums ys := by
  apply ByteArray.ext
  simp [strOfNums, ByteArray.data_append]
theorem strOfNums_size (xs : List Int) : (strOfNums xs).size = xs.length := by
  show (strOfNums xs).data.size = _
  simp [strOfNums]
theorem cut_one (s : ByteArray) (i : Nat) (h : i < s.size) : s.extract i (i + 1) = strOfNums [bt s (i : Int)] := by
  apply ByteArray.ext
  have h' : i < s.data.size := h
  rw [ByteArray.data_extract]
  simp only [strOfNums, bt, Int.toNat_natCast, h, dif_pos, List.map_cons, List.map_nil]
  apply Array.ext
  · simp; omega
  · intro j h1 h2
    have hj : j = 0 := by simp at h2; omega
    subst hj
    simp
    rfl
theorem bt_nat (s : ByteArray) (i : Nat) : 0 ≤ bt s (i : Int) ∧ bt s (i : Int) < 256 := by
  unfold bt
  split
  · rename_i h
    have := (s[(i : Int).toNat]'h).toNat_lt
    omega
  · omega
theorem wrap_step {i n : Nat} (h : i < n) (hn : n ≤ 5000) : wrap64 ((i : Int) + 1) = ((i + 1 : Nat) : Int) := by
  unfold wrap64
  omega

theorem quotes (s : ByteArray) (hn : s.size ≤ 5000) (d : Nat) : ∀ (k i : Nat) (xs : List Int), i ≤ s.size → s.size - i = d → 2 * d < k → xs.length ≤ 2 * i + 1 →
    ∃ r, cmd_Quote.l0 k s xs (s.size : Int) (i : Int) = some r ∧ haversackref14_Quote.l0 k s (strOfNums xs) (i : Int) = some r := by
  induction d with
  | zero =>
    intro k i xs hi hd hk hx
    obtain ⟨k, rfl⟩ : ∃ m, k = m + 1 := ⟨k - 1, by omega⟩
    have hsz := strOfNums_size xs
    refine ⟨strOfNums (xs ++ [34]), ?_, ?_⟩
    · simp only [cmd_Quote.l0]; rw [if_neg (by omega), if_pos (by omega)]
    · simp only [haversackref14_Quote.l0]; rw [if_neg (by omega), if_pos (by omega), strOfNums_append]; rfl
  | succ d ih =>
    intro k i xs hi hd hk hx
    obtain ⟨k, rfl⟩ : ∃ m, k = m + 2 := ⟨k - 2, by omega⟩
    have hlt : i < s.size := by omega
    have hw := wrap_step hlt hn
    have hb := bt_nat s i
    have hsz := strOfNums_size xs
    have hcut := cut_one s i hlt
    have e1 : ((i : Int)).toNat = i := by omega
    have e2 : (((i + 1 : Nat) : Int)).toNat = i + 1 := by omega
    have one : ∀ q : Int, (strOfNums [q]).size = 1 := fun q => strOfNums_size [q]
    have next : ∀ ys : List Int, ys.length ≤ 2 * (i + 1) + 1 → ∃ r, cmd_Quote.l0 k s ys (s.size : Int) ((i + 1 : Nat) : Int) = some r ∧ haversackref14_Quote.l0 k s (strOfNums ys) ((i + 1 : Nat) : Int) = some r :=
      fun ys hy => ih k (i + 1) ys (by omega) (by omega) (by omega) hy
    have body : ∀ b : Bool, ∃ r, cmd_Quote.j1 (k + 1) s xs (i : Int) (s.size : Int) (i : Int) b = some r ∧ haversackref14_Quote.j1 (k + 1) s (strOfNums xs) (i : Int) b = some r := by
      intro b
      cases b with
      | true => exact ⟨⟨#[]⟩, by simp only [cmd_Quote.j1, if_true], by simp only [haversackref14_Quote.j1, if_true]⟩
      | false =>
        simp only [cmd_Quote.j1, haversackref14_Quote.j1, Bool.false_eq_true, if_false, hw, e1, e2, hcut]
        have esc : ∃ r, cmd_Quote.l0 k s ((xs ++ [92]) ++ [bt s (i : Int)]) (s.size : Int) ((i + 1 : Nat) : Int) = some r ∧ haversackref14_Quote.l0 k s ((strOfNums xs ++ (⟨#[92]⟩ : ByteArray)) ++ strOfNums [bt s (i : Int)]) ((i + 1 : Nat) : Int) = some r := by
          obtain ⟨r, h1, h2⟩ := next ((xs ++ [92]) ++ [bt s (i : Int)]) (by simp; omega)
          rw [strOfNums_append, strOfNums_append] at h2
          exact ⟨r, h1, h2⟩
        have bare : ∃ r, cmd_Quote.l0 k s (xs ++ [bt s (i : Int)]) (s.size : Int) ((i + 1 : Nat) : Int) = some r ∧ haversackref14_Quote.l0 k s (strOfNums xs ++ strOfNums [bt s (i : Int)]) ((i + 1 : Nat) : Int) = some r := by
          obtain ⟨r, h1, h2⟩ := next (xs ++ [bt s (i : Int)]) (by simp; omega)
          rw [strOfNums_append] at h2
          exact ⟨r, h1, h2⟩
        have s1 : (strOfNums xs ++ (⟨#[92]⟩ : ByteArray)).size = xs.length + 1 := by rw [ByteArray.size_append, hsz]; rfl
        have l1 : (xs ++ [92] : List Int).length = xs.length + 1 := by simp
        by_cases c34 : bt s (i : Int) = 34
        · obtain ⟨r, h1, h2⟩ := esc
          refine ⟨r, ?_, ?_⟩
          · rw [if_pos (by omega), if_pos (by omega), if_pos c34, if_pos (by omega)]
            simp only [Option.bind_some]
            rw [if_pos (by rw [l1]; omega)]
            exact h1
          · rw [if_pos (by omega), if_pos (by omega), if_pos c34, if_pos (by omega), if_pos (by omega), if_pos (by omega), if_pos (by rw [s1, one]; omega)]
            exact h2
        · by_cases c92 : bt s (i : Int) = 92
          · obtain ⟨r, h1, h2⟩ := esc
            refine ⟨r, ?_, ?_⟩
            · rw [if_pos (by omega), if_pos (by omega), if_neg c34, if_pos c92, if_pos (by omega)]
              simp only [Option.bind_some]
              rw [if_pos (by rw [l1]; omega)]
              exact h1
            · rw [if_pos (by omega), if_pos (by omega), if_neg c34, if_pos c92, if_pos (by omega), if_pos (by omega), if_pos (by omega), if_pos (by rw [s1, one]; omega)]
              exact h2
          · obtain ⟨r, h1, h2⟩ := bare
            refine ⟨r, ?_, ?_⟩
            · rw [if_pos (by omega), if_pos (by omega), if_neg c34, if_neg c92]
              first | (rw [if_pos (by omega)]; exact h1) | exact h1
            · rw [if_pos (by omega), if_pos (by omega), if_neg c34, if_neg c92, if_pos (by omega), if_pos (by omega), if_pos (by rw [hsz, one]; omega)]
              exact h2
    simp only [cmd_Quote.l0, haversackref14_Quote.l0]
    by_cases c32 : bt s (i : Int) < 32
    · obtain ⟨r, h1, h2⟩ := body true
      refine ⟨r, ?_, ?_⟩
      · rw [if_pos (by omega), if_pos (by omega), if_pos (by omega), if_pos c32]; exact h1
      · rw [if_pos (by omega), if_pos (by omega), if_pos c32]; exact h2
    · obtain ⟨r, h1, h2⟩ := body (bt s (i : Int) == 127)
      refine ⟨r, ?_, ?_⟩
      · rw [if_pos (by omega), if_pos (by omega), if_pos (by omega), if_neg c32]; exact h1
      · rw [if_pos (by omega), if_pos (by omega), if_neg c32]; exact h2

theorem CmdQuotes : haversacklaw14_CmdQuotes.Pure := by
  intro s hs
  unfold haversacklaw14_CmdQuotes.f haversacklaw14_alive.f
  by_cases h : (s.size : Int) > 5000
  · exact ⟨0, by rw [if_pos h]; rfl⟩
  · obtain ⟨r, h1, h2⟩ := quotes s (by omega) s.size (2 * s.size + 1) 0 [34] (by omega) (by omega) (by omega) (by simp)
    refine ⟨2 * s.size + 1, ?_⟩
    rw [if_neg h]
    unfold cmd_Quote.f haversackref14_Quote.f
    have e1 : cmd_Quote.l0 (2 * s.size + 1) s [34] (s.size : Int) 0 = some r := h1
    have e2 : haversackref14_Quote.l0 (2 * s.size + 1) s (⟨#[34]⟩ : ByteArray) 0 = some r := h2
    rw [e1, e2]
    simp
end Go.Proofs.YtocecgdblhjojaaGreatDoor.Pure
