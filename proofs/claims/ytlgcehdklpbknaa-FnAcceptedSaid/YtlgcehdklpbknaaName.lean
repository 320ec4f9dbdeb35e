/- Names: the reference and the program say of the same texts that they are names. No condition. -/
import Derived.Test.YtlgcehdklpbknaaBase
namespace Go.Proofs.Ytlgcehdklpbknaa
open Go Go.RowKit Go.ChangeShapes Go.WideShapes
set_option linter.unusedSimpArgs false
set_option linter.unusedVariables false

def smallN (c : Nat) : Bool := decide (97 ≤ c) && decide (c ≤ 122)
def digitN (c : Nat) : Bool := decide (48 ≤ c) && decide (c ≤ 57)
def nameN (c : Nat) : Bool := smallN c || (digitN c || c == 45)
/-- the bytes from k on may stand in a name -/
def nameFrom (s : ByteArray) (k : Nat) : Bool := allTo (fun i => nameN (s.get! (k + i)).toNat) (s.size - k)
def isNameB (s : ByteArray) : Bool := decide (1 ≤ s.size) && (decide (s.size ≤ 12) && (smallN (s.get! 0).toNat && allTo (fun i => nameN (s.get! i).toNat) s.size))
theorem get_bang (s : ByteArray) (k : Nat) (h : k < s.size) : s.get! k = s[k] := by
  obtain ⟨a⟩ := s
  show a[k]! = a[k]
  exact getElem!_pos a k h
theorem small_cases {c : Nat} (h : smallN c = false) : (c : Int) < 97 ∨ (122 : Int) < c := by simp [smallN] at h; omega
theorem small_true {c : Nat} (h : smallN c = true) : (97 : Int) ≤ c ∧ (c : Int) ≤ 122 := by simp [smallN] at h; omega
theorem name_true {c : Nat} (h : nameN c = true) : ((97 : Int) ≤ c ∧ (c : Int) ≤ 122) ∨ ((48 : Int) ≤ c ∧ (c : Int) ≤ 57) ∨ (c : Int) = 45 := by simp [nameN, smallN, digitN] at h; omega
theorem name_false {c : Nat} (h : nameN c = false) : (c : Int) < 45 ∨ ((45 : Int) < c ∧ (c : Int) < 48) ∨ ((57 : Int) < c ∧ (c : Int) < 97) ∨ (122 : Int) < c := by simp [nameN, smallN, digitN] at h; omega
theorem isName_long {s : ByteArray} (h : ¬ s.size ≤ 12) : isNameB s = false := by simp [isNameB, h]
theorem isName_short {s : ByteArray} (h : ¬ 1 ≤ s.size) : isNameB s = false := by simp [isNameB, h]
theorem isName_head {s : ByteArray} (h : smallN (s.get! 0).toNat = false) : isNameB s = false := by simp [isNameB, h]
theorem isName_bad {s : ByteArray} {k : Nat} (hk : k < s.size) (h : nameN (s.get! k).toNat = false) : isNameB s = false := by
  have := allTo_false (p := fun i => nameN (s.get! i).toNat) hk h
  simp [isNameB, this]
theorem isName_good {s : ByteArray} (h1 : 1 ≤ s.size) (h2 : s.size ≤ 12) (h3 : smallN (s.get! 0).toNat = true) (h4 : ∀ i, i < s.size → nameN (s.get! i).toNat = true) : isNameB s = true := by
  have := allTo_true (p := fun i => nameN (s.get! i).toNat) h4
  simp [isNameB, h1, h2, h3, this]
theorem name_of_small {c : Nat} (h : smallN c = true) : nameN c = true := by simp [nameN, h]

set_option maxHeartbeats 2000000 in
theorem name_impl (w : World) (s : ByteArray) : Calls Try.prog 128 #[.string s] w fun e w' => e = .returned (.bool (isNameB s)) ∧ w' = w := by
  by_cases h1 : 1 ≤ s.size
  case neg =>
    have HR := hd (isName_short h1)
    have z : s.size = 0 := by omega
    go_enter Try.func128, Try.ntmps128
    go_wp2_with fail
    go_ret
    exact ⟨by rw [HR.out]; rfl, rfl⟩
  by_cases h2 : s.size ≤ 12
  case neg =>
    have HR := hd (isName_long h2)
    have z : 12 < s.size := by omega
    go_enter Try.func128, Try.ntmps128
    go_wp2_with fail
    go_ret
    exact ⟨by rw [HR.out]; rfl, rfl⟩
  have h0 : 0 < s.size := by omega
  have G0 := hd (get_bang s 0 h0)
  rcases h3 : smallN (s.get! 0).toNat with _ | _
  · have HR := hd (isName_head h3)
    rw [G0.out] at h3
    rcases small_cases h3 with q | q
    all_goals
      clear h3
      go_enter Try.func128, Try.ntmps128
      go_wp2_with fail
      go_ret
      exact ⟨by rw [HR.out]; rfl, rfl⟩
  have H3 := hd h3
  rw [G0.out] at h3
  obtain ⟨q1, q2⟩ := small_true h3
  clear h3
  go_enter Try.func128, Try.ntmps128
  go_wp2_with fail
  go_loop [3] (fun i => ∃ k : Nat, 1 ≤ k ∧ k ≤ s.size ∧ i = .int .i64 k ∧ Hid (∀ j, j < k → nameN (s.get! j).toNat = true)) (fun i => s.size - (intOf i).toNat)
  case atStart => exact ⟨1, Nat.le_refl _, h1, rfl, hd (fun j hj => by obtain rfl : j = 0 := (by omega); exact name_of_small H3.out)⟩
  case round =>
    obtain ⟨k, hk1, hk, rfl, HT⟩ := hrel
    by_cases hlt : k < s.size
    · have GK := hd (get_bang s k hlt)
      rcases h4 : nameN (s.get! k).toNat with _ | _
      · have HR := hd (isName_bad hlt h4)
        rw [GK.out] at h4
        rcases name_false h4 with q | ⟨q, q'⟩ | ⟨q, q'⟩ | q
        all_goals
          have n45 : (((s[k]'hlt).toNat : Int) != 45) = true := bne_iff_ne.2 (by omega)
          clear h4
          go_wp2_with fail
          go_ret
          exact ⟨by rw [HR.out]; rfl, rfl⟩
      · have HT' := hd (allTo_step (p := fun i => nameN (s.get! i).toNat) HT.out h4)
        rw [GK.out] at h4
        rcases name_true h4 with ⟨q, q'⟩ | ⟨q, q'⟩ | q
        · clear h4
          go_wp2_with fail
          go_round
          case rel => exact ⟨k + 1, by omega, by omega, by go_num, HT'⟩
          case measure => simp [intOf]; omega
        · clear h4
          go_wp2_with fail
          go_round
          case rel => exact ⟨k + 1, by omega, by omega, by go_num, HT'⟩
          case measure => simp [intOf]; omega
        · clear h4
          go_wp2_with fail
          go_round
          case rel => exact ⟨k + 1, by omega, by omega, by go_num, HT'⟩
          case measure => simp [intOf]; omega
    · obtain rfl : k = s.size := by omega
      have HR := hd (isName_good h1 h2 H3.out HT.out)
      go_wp2_with fail
      go_ret
      exact ⟨by rw [HR.out]; rfl, rfl⟩

theorem small_spec (c : Nat) (w : World) : Calls Try.prog 152 #[.int .u8 c] w fun e w' => e = .returned (.bool (smallN c)) ∧ w' = w := by
  by_cases h1 : (97 : Int) ≤ c
  · have HE := hd (show smallN c = decide ((c : Int) ≤ 122) by unfold smallN; rw [decide_eq_true (show 97 ≤ c by omega), Bool.true_and]; exact decide_eq_decide.2 (by omega))
    go_enter Try.func152, Try.ntmps152
    go_wp2_with fail
    go_ret
    exact ⟨by rw [HE.out]; rfl, rfl⟩
  · have h2 : (c : Int) < 97 := by omega
    have HE := hd (show smallN c = false by unfold smallN; rw [decide_eq_false (show ¬ 97 ≤ c by omega), Bool.false_and])
    clear h1
    go_enter Try.func152, Try.ntmps152
    go_wp2_with fail
    go_ret
    exact ⟨by rw [HE.out]; rfl, rfl⟩

theorem digit_spec (c : Nat) (w : World) : Calls Try.prog 153 #[.int .u8 c] w fun e w' => e = .returned (.bool (digitN c)) ∧ w' = w := by
  by_cases h1 : (48 : Int) ≤ c
  · have HE := hd (show digitN c = decide ((c : Int) ≤ 57) by unfold digitN; rw [decide_eq_true (show 48 ≤ c by omega), Bool.true_and]; exact decide_eq_decide.2 (by omega))
    go_enter Try.func153, Try.ntmps153
    go_wp2_with fail
    go_ret
    exact ⟨by rw [HE.out]; rfl, rfl⟩
  · have h2 : (c : Int) < 48 := by omega
    have HE := hd (show digitN c = false by unfold digitN; rw [decide_eq_false (show ¬ 48 ≤ c by omega), Bool.false_and])
    clear h1
    go_enter Try.func153, Try.ntmps153
    go_wp2_with fail
    go_ret
    exact ⟨by rw [HE.out]; rfl, rfl⟩

theorem empty_of_size {s : ByteArray} (h : s.size = 0) : s = ByteArray.empty := by
  obtain ⟨⟨l⟩⟩ := s
  cases l with
  | nil => rfl
  | cons a l => simp [ByteArray.size] at h
theorem notEmpty_of_size {s : ByteArray} (h : 0 < s.size) : s.toList.isEmpty = false := by
  rw [ByteArray.toList_eq]
  obtain ⟨⟨l⟩⟩ := s
  cases l with
  | nil => simp [ByteArray.size] at h
  | cons a l => rfl
set_option maxHeartbeats 2000000 in
theorem name_spec (w : World) (s : ByteArray) : Calls Try.prog 127 #[.string s] w fun e w' => e = .returned (.bool (isNameB s)) ∧ w' = w := by
  by_cases h1 : 1 ≤ s.size
  case neg =>
    obtain rfl := empty_of_size (show s.size = 0 by omega)
    go_enter Try.func127, Try.ntmps127
    go_wp2_with fail
    go_ret
    exact ⟨rfl, rfl⟩
  have h0 : 0 < s.size := by omega
  have he := notEmpty_of_size h0
  by_cases h2 : s.size ≤ 12
  case neg =>
    have HR := hd (isName_long h2)
    have z : 12 < s.size := by omega
    go_enter Try.func127, Try.ntmps127
    go_wp2_with fail
    go_ret
    exact ⟨by rw [HR.out]; rfl, rfl⟩
  have G0 := hd (get_bang s 0 h0)
  rcases h3 : smallN (s.get! 0).toNat with _ | _
  · have HR := hd (isName_head h3)
    rw [G0.out] at h3
    go_enter Try.func127, Try.ntmps127
    go_wp2_with (first | (go_at_call 152; refine (small_spec _ _).mono ?_; rintro e w' ⟨rfl, rfl⟩) | (go_at_call 153; refine (digit_spec _ _).mono ?_; rintro e w' ⟨rfl, rfl⟩))
    go_ret
    exact ⟨by rw [HR.out]; rfl, rfl⟩
  have H3 := hd h3
  rw [G0.out] at h3
  go_enter Try.func127, Try.ntmps127
  go_wp2_with (first | (go_at_call 152; refine (small_spec _ _).mono ?_; rintro e w' ⟨rfl, rfl⟩) | (go_at_call 153; refine (digit_spec _ _).mono ?_; rintro e w' ⟨rfl, rfl⟩))
  clear h3
  go_loop [3] (fun i => ∃ k : Nat, k ≤ s.size ∧ i = .int .i64 k ∧ Hid (∀ j, j < k → nameN (s.get! j).toNat = true)) (fun i => s.size - (intOf i).toNat)
  case atStart => exact ⟨0, Nat.zero_le _, rfl, hd (fun j hj => absurd hj (Nat.not_lt_zero _))⟩
  case round =>
    obtain ⟨k, hk, rfl, HT⟩ := hrel
    by_cases hlt : k < s.size
    · have GK := hd (get_bang s k hlt)
      rcases q1 : smallN (s.get! k).toNat with _ | _
      · rcases q2 : digitN (s.get! k).toNat with _ | _
        · by_cases q3 : (s.get! k).toNat = 45
          · have HT' := hd (allTo_step (p := fun i => nameN (s.get! i).toNat) HT.out (show nameN (s.get! k).toNat = true by simp [nameN, q3]))
            rw [GK.out] at q1 q2 q3
            have n45 : (((s[k]'hlt).toNat : Int) != 45) = false := by rw [q3]; rfl
            clear q3
            go_wp2_with (first | (go_at_call 152; refine (small_spec _ _).mono ?_; rintro e w' ⟨rfl, rfl⟩) | (go_at_call 153; refine (digit_spec _ _).mono ?_; rintro e w' ⟨rfl, rfl⟩))
            go_round
            case rel => exact ⟨k + 1, by omega, by go_num, HT'⟩
            case measure => simp [intOf]; omega
          · have HR := hd (isName_bad hlt (show nameN (s.get! k).toNat = false by simp [nameN, q1, q2, q3]))
            rw [GK.out] at q1 q2 q3
            have n45 : (((s[k]'hlt).toNat : Int) != 45) = true := bne_iff_ne.2 (by omega)
            clear q3
            go_wp2_with (first | (go_at_call 152; refine (small_spec _ _).mono ?_; rintro e w' ⟨rfl, rfl⟩) | (go_at_call 153; refine (digit_spec _ _).mono ?_; rintro e w' ⟨rfl, rfl⟩))
            go_ret
            exact ⟨by rw [HR.out]; rfl, rfl⟩
        · have HT' := hd (allTo_step (p := fun i => nameN (s.get! i).toNat) HT.out (show nameN (s.get! k).toNat = true by simp [nameN, q2]))
          rw [GK.out] at q1 q2
          go_wp2_with (first | (go_at_call 152; refine (small_spec _ _).mono ?_; rintro e w' ⟨rfl, rfl⟩) | (go_at_call 153; refine (digit_spec _ _).mono ?_; rintro e w' ⟨rfl, rfl⟩))
          go_round
          case rel => exact ⟨k + 1, by omega, by go_num, HT'⟩
          case measure => simp [intOf]; omega
      · have HT' := hd (allTo_step (p := fun i => nameN (s.get! i).toNat) HT.out (name_of_small q1))
        rw [GK.out] at q1
        go_wp2_with (first | (go_at_call 152; refine (small_spec _ _).mono ?_; rintro e w' ⟨rfl, rfl⟩) | (go_at_call 153; refine (digit_spec _ _).mono ?_; rintro e w' ⟨rfl, rfl⟩))
        go_round
        case rel => exact ⟨k + 1, by omega, by go_num, HT'⟩
        case measure => simp [intOf]; omega
    · obtain rfl : k = s.size := by omega
      have HR := hd (isName_good h1 h2 H3.out HT.out)
      go_wp2_with (first | (go_at_call 152; refine (small_spec _ _).mono ?_; rintro e w' ⟨rfl, rfl⟩) | (go_at_call 153; refine (digit_spec _ _).mono ?_; rintro e w' ⟨rfl, rfl⟩))
      go_ret
      exact ⟨by rw [HR.out]; rfl, rfl⟩

end Go.Proofs.Ytlgcehdklpbknaa
