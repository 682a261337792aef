/-
  Lines of words, plainly: a text cut at a byte, lines as rows of words, rows as lines; rows come back of their lines. No program in sight. No condition.
-/
import Derived.Test.YtpkkjoiglemlgaaGreatDoorSeg
import Derived.Lib.SplitLaws
import Derived.Lib.SpaceUEq
import Derived.Lib.Join
namespace Go.Proofs.YtpkkjoiglemlgaaGreatDoor
set_option linter.unusedVariables false
open Go.Lib

/-- A text, cut at each byte of a kind. -/
def spl (b : UInt8) : List UInt8 → List (List UInt8)
  | [] => [[]]
  | c :: r => if c = b then [] :: spl b r else match spl b r with
    | [] => [[c]]
    | h :: t => (c :: h) :: t
/-- Is a line one? (last: is a blank, or the line's begin, ahead?) -/
def rg : Bool → List UInt8 → Bool
  | last, [] => !last
  | last, c :: r => if c = 32 then (if last then false else rg true r) else rg false r
/-- The rows of lines from a place on: the rows, a code, its place. -/
def qsp : Nat → List UInt8 → Nat → List (List (List UInt8)) → List (List (List UInt8)) × Nat × Nat
  | 0, _, _, out => (out, 0, 0)
  | n + 1, l, at_, out => if l = [] then (out, 0, 0)
    else if index l [10] = -1 then ([], 1, at_)
    else if rg true (l.take (index l [10]).toNat) = false then ([], 1, at_)
    else qsp n (l.drop ((index l [10]).toNat + 1)) (at_ + (index l [10]).toNat + 1) (out ++ [spl 32 (l.take (index l [10]).toNat)])
def qsplit (l : List UInt8) : List (List (List UInt8)) × Nat × Nat := qsp l.length l 0 []
/-- Words with a blank between. -/
def qrow : List (List UInt8) → List UInt8
  | [] => []
  | [x] => x
  | x :: y :: r => x ++ 32 :: qrow (y :: r)
def qlines (l : List (List (List UInt8))) : List UInt8 := l.flatMap fun r => qrow r ++ [10]

theorem spl_ne (b : UInt8) (l : List UInt8) : spl b l ≠ [] := by
  cases l with
  | nil => simp [spl]
  | cons c r =>
    unfold spl
    split
    · simp
    · split <;> simp
theorem index_nil1 (b : UInt8) : index [] [b] = -1 := rfl
theorem index_hit1 (b : UInt8) (r : List UInt8) : index (b :: r) [b] = 0 := by
  rw [index, if_pos (by simp [List.isPrefixOf])]
theorem index_miss1 {b c : UInt8} (h : c ≠ b) (r : List UInt8) : index (c :: r) [b] = if index r [b] = -1 then -1 else index r [b] + 1 := by
  rw [index, if_neg (by simp [List.isPrefixOf, Ne.symm h])]
  by_cases h1 : index r [b] = -1
  · rw [if_pos (by simp [h1]), if_pos h1]
  · rw [if_neg (by simpa using h1), if_neg h1]
/-- A text that has no such byte; or the first one's place. -/
theorem spl_index (b : UInt8) : ∀ l : List UInt8, (index l [b] = -1 ∧ spl b l = [l] ∧ b ∉ l) ∨ ∃ i : Nat, index l [b] = i ∧ i < l.length ∧ spl b l = l.take i :: spl b (l.drop (i + 1)) ∧ b ∉ l.take i
  | [] => .inl ⟨rfl, rfl, by simp⟩
  | c :: r => by
    by_cases h : c = b
    · subst h
      exact .inr ⟨0, by rw [index_hit1]; rfl, by simp, by simp [spl], by simp⟩
    · rw [index_miss1 h]
      rcases spl_index b r with ⟨h1, h2, h3⟩ | ⟨i, h1, h2, h3, h4⟩
      · exact .inl ⟨by rw [if_pos h1], by rw [spl, if_neg h, h2], by simp [h3, Ne.symm h]⟩
      · exact .inr ⟨i + 1, by rw [if_neg (by omega), h1]; rfl, by simp [h2], by rw [spl, if_neg h, h3]; rfl, by simp [h4, Ne.symm h]⟩
theorem spl_none {b : UInt8} : ∀ {l : List UInt8}, b ∉ l → spl b l = [l]
  | [], _ => rfl
  | c :: r, h => by
    simp only [List.mem_cons, not_or] at h
    rw [spl, if_neg (Ne.symm h.1), spl_none h.2]
theorem spl_cons {b : UInt8} : ∀ {x : List UInt8} (y : List UInt8), b ∉ x → spl b (x ++ b :: y) = x :: spl b y
  | [], y, _ => by simp [spl]
  | c :: r, y, h => by
    simp only [List.mem_cons, not_or] at h
    rw [List.cons_append, spl, if_neg (Ne.symm h.1), spl_cons y h.2]
theorem index_cons {b : UInt8} : ∀ {x : List UInt8} (y : List UInt8), b ∉ x → index (x ++ b :: y) [b] = x.length
  | [], y, _ => by rw [List.nil_append, index_hit1]; rfl
  | c :: r, y, h => by
    simp only [List.mem_cons, not_or] at h
    rw [List.cons_append, index_miss1 (Ne.symm h.1), index_cons y h.2, if_neg (by omega)]
    rfl
/-- What the library's Split yields. -/
theorem splitK_spl (b : UInt8) : ∀ (k : Nat) (l : List UInt8), count l [b] = k → splitK [b] 0 k l = spl b l
  | 0, l, h => by
    rcases spl_index b l with ⟨h1, h2, _⟩ | ⟨i, h1, _, _, _⟩
    · rw [h2]; rfl
    · rw [count_hit (by simp) h1] at h; omega
  | k + 1, l, h => by
    rcases spl_index b l with ⟨h1, h2, _⟩ | ⟨i, h1, _, h3, _⟩
    · rw [count_miss h1] at h; omega
    · rw [count_hit (by simp) h1] at h
      have ih := splitK_spl b k (l.drop (i + 1)) (by simp only [List.length_cons, List.length_nil, Nat.zero_add] at h; omega)
      rw [splitK, h1, if_neg (by simp)]
      simp only [List.length_cons, List.length_nil, Nat.zero_add, Nat.add_zero, Int.toNat_natCast, ih]
      exact h3.symm
theorem splitB_spl (b : UInt8) (s : ByteArray) : splitB (bs [b]) 0 (countB s (bs [b])) s = (spl b s.data.toList).map bs := by
  have h := splitB_data (bs [b]) 0 (countB s (bs [b])) s
  rw [list_bs, splitK_spl b _ _ (by show count _ _ = count _ _; rw [list_bs])] at h
  rw [← h, List.map_map]
  have : ∀ x : ByteArray, (bs ∘ fun x : ByteArray => x.data.toList) x = x := fun x => ba_ext (list_bs _)
  rw [show (bs ∘ fun x : ByteArray => x.data.toList) = id from funext this, List.map_id]
theorem countB_spl (b : UInt8) (s : ByteArray) : countB s (bs [b]) + 1 = (spl b s.data.toList).length := by
  have h := splitB_all (bs [b]) (by rw [size_bs]; simp) 0 _ s rfl
  rw [splitB_spl, List.length_map] at h
  exact h.symm
theorem spl_len (b : UInt8) : ∀ l : List UInt8, (spl b l).length ≤ l.length + 1
  | [] => by simp [spl]
  | c :: r => by
    have := spl_len b r
    unfold spl
    split
    · simp; omega
    · split
      · simp
      · rename_i h t e
        rw [e] at this
        simp at this ⊢; omega
theorem rg_words : ∀ (l : List UInt8) (b : Bool), rg b l = match spl 32 l with
    | [] => false
    | h :: t => (!b || decide (h ≠ [])) && t.all fun x => decide (x ≠ [])
  | [], b => by cases b <;> rfl
  | c :: r, b => by
    unfold rg spl
    by_cases h : c = 32
    · simp only [if_pos h]
      rw [rg_words r true]
      obtain ⟨x, t, e⟩ := List.exists_cons_of_ne_nil (spl_ne 32 r)
      rw [e]
      cases b <;> simp
    · simp only [if_neg h]
      rw [rg_words r false]
      obtain ⟨x, t, e⟩ := List.exists_cons_of_ne_nil (spl_ne 32 r)
      rw [e]
      cases b <;> simp
/-- A line is one just if it has no empty word. -/
theorem rg_true (l : List UInt8) : rg true l = (spl 32 l).all fun x => decide (x ≠ []) := by
  rw [rg_words]
  obtain ⟨x, t, e⟩ := List.exists_cons_of_ne_nil (spl_ne 32 l)
  rw [e]
  simp
theorem rg_skip : ∀ (k : Nat) (l : List UInt8) (b : Bool), 0 < k → k ≤ l.length → (∀ j, j < k → lf l j ≠ 32) → rg b l = rg false (l.drop k)
  | 0, _, _, h, _, _ => absurd h (by omega)
  | k + 1, [], _, _, h, _ => by simp at h
  | k + 1, c :: r, b, _, h, hn => by
    have h0 := hn 0 (by omega)
    have hc : c ≠ 32 := fun e => h0 (by subst e; rfl)
    rw [rg, if_neg hc, List.drop_succ_cons]
    by_cases hk : k = 0
    · subst hk; rfl
    · exact rg_skip k r false (by omega) (by simpa using h) fun j hj => by
        have := hn (j + 1) (by omega)
        simpa [lf] using this
/-- The bytes of a rune that is no blank are none. -/
theorem rune_skip (s : ByteArray) (p : Nat) (hp : p < s.size) (h : (Utf8.decode s p).1 ≠ 32) : 1 ≤ (Utf8.decode s p).2 ∧ p + (Utf8.decode s p).2 ≤ s.size ∧ ∀ j, j < (Utf8.decode s p).2 → lf (s.data.toList.drop p) j ≠ 32 := by
  have hb : ∀ k, p + k < s.size → lf (s.data.toList.drop p) k = (s.get! (p + k)).toNat := fun k hk => by
    simp only [lf, List.getElem?_drop]
    rw [List.getElem?_eq_getElem (by simpa using hk)]
    simp only [Option.getD_some, ByteArray.get!]
    rw [getElem!_pos s.data (p + k) (by simpa using hk)]
    rfl
  have hc := decodeN_conts (s.size - p) (s.get! p).toNat (s.get! (p + 1)).toNat (s.get! (p + 2)).toNat (s.get! (p + 3)).toNat
  rw [← decode_at] at hc
  obtain ⟨c2, c3, c4, c5⟩ := hc
  have h0 : (s.get! p).toNat ≠ 32 := fun e => h (by rw [decode_at, decodeN, if_pos (by omega), e])
  have h1 : 1 ≤ (Utf8.decode s p).2 := by
    rw [decode_at]
    unfold decodeN
    repeat' split
    all_goals simp
  refine ⟨h1, by omega, fun j hj => ?_⟩
  have : j = 0 ∨ j = 1 ∨ j = 2 ∨ j = 3 := by omega
  rcases this with rfl | rfl | rfl | rfl
  · rw [hb 0 (by omega)]; exact h0
  · rw [hb 1 (by omega)]; have := c2 (by omega); omega
  · rw [hb 2 (by omega)]; have := c3 (by omega); omega
  · rw [hb 3 (by omega)]; have := c4 (by omega); omega
theorem rune_blank (s : ByteArray) (p : Nat) (hp : p < s.size) (h : (Utf8.decode s p).1 = 32) : (Utf8.decode s p).2 = 1 ∧ s.data.toList.drop p = 32 :: s.data.toList.drop (p + 1) := by
  have hg : (s.get! p).toNat = (s.data.toList[p]'(by simpa using hp)).toNat := by
    simp only [ByteArray.get!]
    rw [getElem!_pos s.data p (by simpa using hp)]
    rfl
  rw [decode_at] at h ⊢
  have h0 : (s.get! p).toNat = 32 ∧ (decodeN (s.size - p) (s.get! p).toNat (s.get! (p + 1)).toNat (s.get! (p + 2)).toNat (s.get! (p + 3)).toNat).2 = 1 := by
    revert h
    unfold decodeN
    repeat' split
    all_goals (intro h; dsimp only at h ⊢; first | omega | skip)
  refine ⟨h0.2, ?_⟩
  rw [List.drop_eq_getElem_cons (by simpa using hp)]
  congr 1
  apply UInt8.toNat_inj.1
  rw [← hg, h0.1]
  rfl
/-! ### one step of Split -/
section
variable {l : List UInt8} {n at_ : Nat} {out : List (List (List UInt8))}
theorem qsp_end : qsp n [] at_ out = (out, 0, 0) := by
  cases n with
  | zero => rfl
  | succ n => rw [qsp, if_pos rfl]
theorem qsp_none (h : l ≠ []) (h1 : index l [10] = -1) : qsp (n + 1) l at_ out = ([], 1, at_) := by rw [qsp, if_neg h, if_pos h1]
theorem qsp_bad {i : Nat} (h : l ≠ []) (h1 : index l [10] = i) (h2 : rg true (l.take i) = false) : qsp (n + 1) l at_ out = ([], 1, at_) := by
  rw [qsp, if_neg h, if_neg (by omega), h1, Int.toNat_natCast, if_pos h2]
theorem qsp_step {i : Nat} (h : l ≠ []) (h1 : index l [10] = i) (h2 : rg true (l.take i) = true) : qsp (n + 1) l at_ out = qsp n (l.drop (i + 1)) (at_ + i + 1) (out ++ [spl 32 (l.take i)]) := by
  rw [qsp, if_neg h, if_neg (by omega), h1, Int.toNat_natCast, if_neg (by rw [h2]; decide)]
end
/-! ### rows come back of their lines -/
/-- A row of words: none is empty, none has a blank or a line's end. -/
def qwords (l : List (List (List UInt8))) : Prop := ∀ r ∈ l, r ≠ [] ∧ ∀ x ∈ r, x ≠ [] ∧ (32 : UInt8) ∉ x ∧ (10 : UInt8) ∉ x
theorem qrow_no {b : UInt8} (hb : b ≠ 32) : ∀ {r : List (List UInt8)}, (∀ x ∈ r, b ∉ x) → b ∉ qrow r
  | [], _ => by simp [qrow]
  | [x], h => by simpa [qrow] using h
  | x :: y :: r, h => by
    have h1 := h x (by simp)
    have h2 := qrow_no hb (r := y :: r) fun z hz => h z (by simp [hz])
    simp [qrow, h1, h2, hb]
theorem spl_qrow : ∀ {r : List (List UInt8)}, r ≠ [] → (∀ x ∈ r, (32 : UInt8) ∉ x) → spl 32 (qrow r) = r
  | [], h, _ => absurd rfl h
  | [x], _, h => by rw [qrow, spl_none (h x (by simp))]
  | x :: y :: r, _, h => by
    rw [qrow, spl_cons _ (h x (by simp)), spl_qrow (by simp) fun z hz => h z (by simp [hz])]
theorem qsp_lines : ∀ (l : List (List (List UInt8))) (n at_ : Nat) (out : List (List (List UInt8))), qwords l → (qlines l).length ≤ n → qsp n (qlines l) at_ out = (out ++ l, 0, 0)
  | [], n, at_, out, _, _ => by rw [show qlines [] = [] from rfl, qsp_end, List.append_nil]
  | r :: t, 0, at_, out, _, h => by simp [qlines] at h
  | r :: t, n + 1, at_, out, hq, h => by
    obtain ⟨h1, h2⟩ := hq r (by simp)
    have e : qlines (r :: t) = qrow r ++ 10 :: qlines t := by simp [qlines]
    have hn : (10 : UInt8) ∉ qrow r := qrow_no (by decide) fun x hx => (h2 x hx).2.2
    rw [e] at h ⊢
    have hs := spl_qrow h1 fun x hx => (h2 x hx).2.1
    have hix := index_cons (qlines t) hn
    have htake : (qrow r ++ 10 :: qlines t).take (qrow r).length = qrow r := List.take_left
    have hdrop : (qrow r ++ 10 :: qlines t).drop ((qrow r).length + 1) = qlines t := by
      rw [← List.drop_drop, List.drop_left]; rfl
    rw [qsp_step (by simp) hix (by
      rw [htake, rg_true, hs, List.all_eq_true]
      intro x hx
      simpa using (h2 x hx).1), htake, hdrop, hs, qsp_lines t n _ _ (fun x hx => hq x (by simp [hx])) (by simp at h; omega)]
    simp
theorem qsplit_lines {l : List (List (List UInt8))} (h : qwords l) : qsplit (qlines l) = (l, 0, 0) := by
  have := qsp_lines l _ 0 [] h (Nat.le_refl _)
  simpa [qsplit] using this
theorem qsp_code : ∀ (n : Nat) (l : List UInt8) (at_ : Nat) (out : List (List (List UInt8))), ((qsp n l at_ out).2.1 = 0 ∧ (qsp n l at_ out).2.2 = 0) ∨ ((qsp n l at_ out).2.1 = 1 ∧ (qsp n l at_ out).1 = [] ∧ (qsp n l at_ out).2.2 ≤ at_ + l.length)
  | 0, _, _, _ => .inl ⟨rfl, rfl⟩
  | n + 1, l, at_, out => by
    by_cases h : l = []
    · subst h; rw [qsp_end]; exact .inl ⟨rfl, rfl⟩
    · rcases spl_index 10 l with ⟨h1, _, _⟩ | ⟨i, h1, h2, _, _⟩
      · rw [qsp_none h h1]; exact .inr ⟨rfl, rfl, by simp⟩
      · cases hr : rg true (l.take i)
        · rw [qsp_bad h h1 hr]; exact .inr ⟨rfl, rfl, by simp⟩
        · rw [qsp_step h h1 hr]
          have := qsp_code n (l.drop (i + 1)) (at_ + i + 1) (out ++ [spl 32 (l.take i)])
          rw [List.length_drop] at this
          exact this.imp id fun ⟨a, b, c⟩ => ⟨a, b, by omega⟩
theorem qsplit_code (l : List UInt8) : ((qsplit l).2.1 = 0 ∧ (qsplit l).2.2 = 0) ∨ ((qsplit l).2.1 = 1 ∧ (qsplit l).1 = [] ∧ (qsplit l).2.2 ≤ l.length) := by
  have := qsp_code l.length l 0 []
  simpa [qsplit] using this
theorem qrow_join (r : List (List UInt8)) : Lib.join r [32] = qrow r := by
  induction r with
  | nil => rfl
  | cons x t ih =>
    cases t with
    | nil => simp [Lib.join_one, qrow]
    | cons y u => rw [Lib.join_cons, qrow, ← ih, Lib.join_cons]; simp [Lib.joinTail]
end Go.Proofs.YtpkkjoiglemlgaaGreatDoor
