/- Messages in plain lists: what is made a message is read as it was, by the program and by the document. -/
import Derived.Test.YtbaombnnagidcaaDoorRefReadReply
namespace Go.Proofs.YtbaombnnagidcaaDoor
open Go.RowKit

theorem str_back (s : ByteArray) : str s.data.toList = s := by
  cases s
  rfl
theorem text_back {s : ByteArray} {m : Nat} (hs : s.size ≤ m) (h63 : s.size < 9223372036854775808) (rest : List UInt8) : textR m (textL s ++ rest) = (s.data.toList, (textL s).length, 0) := by
  have hl : (s.data.toList ++ rest).take s.size = s.data.toList := by rw [← size_toList s]; exact List.take_left
  rw [textR, textL, List.append_assoc, scanL_put h63]
  dsimp only
  rw [if_neg (by decide), if_neg (by omega), if_neg, List.drop_left, hl]
  · rw [List.length_append, size_toList]
  · rw [List.length_append, List.length_append, size_toList]
    omega
theorem unframe_frame {p : List UInt8} (hp : p.length ≤ 65536) : unframeL (frameL p) = (p, [], 0) := by
  have e : frameL p = putL p.length ++ (p ++ fourL (sumL p)) := by rw [frameL, List.append_assoc]
  have hd : (p ++ fourL (sumL p)).drop (p.length + 4) = [] := List.drop_eq_nil_of_le (by rw [List.length_append, length_fourL]; exact Nat.le_refl _)
  have h4 : (fourL (sumL p)).take 4 = fourL (sumL p) := List.take_of_length_le (by rw [length_fourL]; exact Nat.le_refl _)
  rw [e, unframeL, scanL_put (by omega)]
  dsimp only
  rw [if_neg (by decide), if_neg (by omega), List.drop_left, if_neg, List.take_left, List.drop_left, if_pos h4.symm, hd]
  rw [List.length_append, length_fourL]
  omega
theorem num_back {z : Int} (h0 : 0 ≤ z) (h : z < 9223372036854775808) (rest : List UInt8) : scanL (putZ z ++ rest) = (z.toNat, (putZ z).length, 0) := scanL_put (by omega) rest

/-- the numbers of a message are read one by one -/
theorem nums_back {p tail : List UInt8} {k : UInt8} {ks : List Int} (hp : p = [k] ++ numL ks ++ tail) (hk : ∀ z ∈ ks, 0 ≤ z ∧ z < 9223372036854775808) : ∀ j, j ≤ ks.length → numsS p ([], 1, 0) j = (ks.take j, 1 + (numL (ks.take j)).length, 0)
  | 0, _ => by simp [numsS, numL]
  | j + 1, hj => by
    have hlt : j < ks.length := hj
    have e : numL ks = numL (ks.take j) ++ (putZ ks[j] ++ numL (ks.drop (j + 1))) := by
      have h0 : numL ks = numL (ks.take j ++ ks[j] :: ks.drop (j + 1)) := by rw [← List.drop_eq_getElem_cons hlt, List.take_append_drop]
      rw [h0, numL, List.flatMap_append]
      rfl
    have hd : p.drop (1 + (numL (ks.take j)).length) = putZ ks[j] ++ (numL (ks.drop (j + 1)) ++ tail) := by
      rw [hp, e]
      rw [show [k] ++ (numL (List.take j ks) ++ (putZ ks[j] ++ numL (List.drop (j + 1) ks))) ++ tail = ([k] ++ numL (List.take j ks)) ++ (putZ ks[j] ++ (numL (List.drop (j + 1) ks) ++ tail)) by simp [List.append_assoc]]
      exact List.drop_left' (by rw [List.length_append, List.length_singleton])
    have hz := hk _ (List.getElem_mem hlt)
    rw [numsS, nums_back hp hk j (by omega), stepN]
    dsimp only
    rw [if_pos rfl, hd, num_back hz.1 hz.2, numL_take_succ hlt, List.take_succ_eq_append_getElem hlt, List.length_append, Nat.add_assoc]
    dsimp only
    rw [Int.toNat_of_nonneg hz.1]

theorem body_assoc (k : UInt8) (ks : List Int) (id text : ByteArray) : bodyL k ks id text = [k] ++ numL ks ++ (textL id ++ textL text) := by simp [bodyL]
theorem body_first (k : UInt8) (ks : List Int) (id text : ByteArray) : byteR (bodyL k ks id text) = (k.toNat, 1, 0) := rfl

/-- the whole of a message is read back -/
theorem parse_back {k : UInt8} {ks : List Int} {id text : ByteArray} (hk : ∀ z ∈ ks, 0 ≤ z ∧ z < 9223372036854775808) (hb : (bodyL k ks id text).length ≤ 65536) :
    parseL (frameL (bodyL k ks id text)) k.toNat ks.length = (ks, id, text, true) := by
  have hp := body_assoc k ks id text
  have hl := congrArg List.length hp
  rw [List.length_append, List.length_append, List.length_append, List.length_singleton] at hl
  have h1 := length_textL id
  have h2 := length_textL text
  have hn := nums_back hp hk ks.length (Nat.le_refl _)
  rw [List.take_length] at hn
  have hd1 : (bodyL k ks id text).drop (1 + (numL ks).length) = textL id ++ textL text := by
    rw [hp]
    exact List.drop_left' (by rw [List.length_append, List.length_singleton])
  have hd2 : (bodyL k ks id text).drop (1 + (numL ks).length + (textL id).length) = textL text := by
    rw [← List.drop_drop, hd1, List.drop_left]
  have ht1 := text_back (s := id) (m := (bodyL k ks id text).length) (by omega) (by omega) (textL text)
  have ht2 := text_back (s := text) (m := (bodyL k ks id text).length) (by omega) (by omega) []
  rw [List.append_nil] at ht2
  unfold parseL
  rw [unframe_frame hb]
  dsimp only
  rw [if_neg (by simp), body_first]
  dsimp only
  rw [hn]
  unfold parseEndL
  dsimp only
  rw [hd1, ht1]
  dsimp only
  rw [hd2, ht2]
  dsimp only
  rw [str_back, str_back]
  refine Prod.ext rfl (Prod.ext rfl (Prod.ext rfl ?_))
  show decide _ = true
  rw [decide_eq_true_eq]
  refine ⟨rfl, rfl, rfl, rfl, ?_⟩
  rw [List.length_drop]
  omega

/-- a message of another kind is none -/
theorem parse_other {k : UInt8} {ks : List Int} {id text : ByteArray} (hb : (bodyL k ks id text).length ≤ 65536) {q m : Nat} (hq : k.toNat ≠ q) :
    (parseL (frameL (bodyL k ks id text)) q m).2.2.2 = false := by
  unfold parseL
  rw [unframe_frame hb]
  dsimp only
  rw [if_neg (by simp), body_first]
  unfold parseEndL
  exact decide_eq_false (fun h => hq h.1)

theorem length_body {k : UInt8} {ks : List Int} {id text : ByteArray} (hk : ∀ z ∈ ks, z < 9223372036854775808) (hn : ks.length ≤ 100) (hi : id.size ≤ 1000) (ht : text.size ≤ 10000) : (bodyL k ks id text).length ≤ 65536 := by
  have h1 := length_textL id
  have h2 := length_textL text
  have h3 := length_putL (n := id.size) (by omega)
  have h4 := length_putL (n := text.size) (by omega)
  have h5 := length_numL hk
  rw [bodyL, List.length_append, List.length_append, List.length_append, List.length_singleton]
  omega

theorem ask_nums {r : Req} (h : mayL r = true) : ∀ z ∈ [r.kind, r.session], 0 ≤ z ∧ z < 9223372036854775808 := by
  obtain ⟨_, _, h3, h4, h5, h6⟩ := mayL_facts h
  intro z hz
  simp only [List.mem_cons, List.not_mem_nil, or_false] at hz
  omega
theorem reply_nums {r : Rep} (h : mayRepL r = true) : ∀ z ∈ [r.status, r.session, r.why], 0 ≤ z ∧ z < 9223372036854775808 := by
  obtain ⟨_, _, h3, h4, h5, h6, h7, h8⟩ := mayRepL_facts h
  intro z hz
  simp only [List.mem_cons, List.not_mem_nil, or_false] at hz
  omega
theorem ask_body {r : Req} (h : mayL r = true) : (bodyL 1 [r.kind, r.session] r.id r.text).length ≤ 65536 := by
  obtain ⟨h1, h2, _⟩ := mayL_facts h
  exact length_body (fun z hz => (ask_nums h z hz).2) (by simp) (by omega) (by omega)
theorem reply_body {r : Rep} (h : mayRepL r = true) : (bodyL 2 [r.status, r.session, r.why] r.id r.text).length ≤ 65536 := by
  obtain ⟨h1, h2, _⟩ := mayRepL_facts h
  exact length_body (fun z hz => (reply_nums h z hz).2) (by simp) (by omega) (by omega)
theorem ask_yes {r : Req} (h : mayL r = true) : askZ r = 0 ∧ askB r = askL r := by simp [askZ, askB, h]
theorem reply_yes {r : Rep} (h : mayRepL r = true) : replyZ r = 0 ∧ replyB r = replyL r := by simp [replyZ, replyB, h]
theorem ask_zero {r : Req} (h : askZ r = 0) : mayL r = true := by
  unfold askZ at h
  split at h
  · assumption
  · cases h
theorem reply_zero {r : Rep} (h : replyZ r = 0) : mayRepL r = true := by
  unfold replyZ at h
  split at h
  · assumption
  · cases h

/-- the program reads back what it made -/
theorem readAsk_back {r : Req} (h : mayL r = true) : readAskL (askL r) = (r, 0) := by
  have hp := parse_back (k := 1) (id := r.id) (text := r.text) (ask_nums h) (ask_body h)
  obtain ⟨h1, h2⟩ := ask_yes h
  unfold readAskL
  rw [show parseL (askL r) 1 2 = ([r.kind, r.session], r.id, r.text, true) from hp]
  unfold reqEnd
  exact if_pos ⟨rfl, h1, h2.symm⟩
theorem readReply_back {r : Rep} (h : mayRepL r = true) : readReplyL (replyL r) = (r, 0) := by
  have hp := parse_back (k := 2) (id := r.id) (text := r.text) (reply_nums h) (reply_body h)
  obtain ⟨h1, h2⟩ := reply_yes h
  unfold readReplyL
  rw [show parseL (replyL r) 2 3 = ([r.status, r.session, r.why], r.id, r.text, true) from hp]
  unfold repEnd
  exact if_pos ⟨rfl, h1, h2.symm⟩
theorem readReply_ask {r : Req} (h : mayL r = true) : readReplyL (askL r) = (Rep.zero, 5) := by
  unfold readReplyL
  rw [show (parseL (askL r) 2 3).2.2.2 = false from parse_other (k := 1) (ask_body h) (by decide)]
  unfold repEnd
  exact if_neg (fun e => by cases e.1)
theorem readAsk_reply {r : Rep} (h : mayRepL r = true) : readAskL (replyL r) = (Req.zero, 5) := by
  unfold readAskL
  rw [show (parseL (replyL r) 1 2).2.2.2 = false from parse_other (k := 2) (reply_body h) (by decide)]
  unfold reqEnd
  exact if_neg (fun e => by cases e.1)

/-- so does the document -/
theorem xReadAsk_back {r : Req} (h : mayL r = true) : xReadAskL (askL r) = (r, 0) := by
  obtain ⟨f1, f2, f3, f4, f5, f6⟩ := mayL_facts h
  obtain ⟨h1, h2⟩ := ask_yes h
  have hu : unframeL (askL r) = (bodyL 1 [r.kind, r.session] r.id r.text, [], 0) := unframe_frame (ask_body h)
  have hb : bodyL 1 [r.kind, r.session] r.id r.text = 1 :: (putZ r.kind ++ (putZ r.session ++ (textL r.id ++ (textL r.text ++ [])))) := by simp [bodyL, numL]
  have e1 := num_back (z := r.kind) (by omega) (by omega) (putZ r.session ++ (textL r.id ++ (textL r.text ++ [])))
  have e2 := num_back (z := r.session) (by omega) (by omega) (textL r.id ++ (textL r.text ++ []))
  have e3 := text_back (s := r.id) (m := 8) f1 (by omega) (textL r.text ++ [])
  have e4 := text_back (s := r.text) (m := 1200) f2 (by omega) []
  have hx : xAskOf (bodyL 1 [r.kind, r.session] r.id r.text) = r := by
    rw [hb]
    unfold xAskOf
    rw [List.drop_succ_cons, List.drop_zero]
    simp only [e1, e2, e3, e4, List.drop_left, str_back]
    rw [Int.toNat_of_nonneg (by omega), Int.toNat_of_nonneg (by omega)]
  unfold xReadAskL
  rw [hu]
  dsimp only
  rw [if_neg, hx]
  · unfold reqEnd
    exact if_pos ⟨rfl, h1, h2.symm⟩
  · rw [body_first]
    simp [bodyL]
theorem xReadReply_back {r : Rep} (h : mayRepL r = true) : xReadReplyL (replyL r) = (r, 0) := by
  obtain ⟨f1, f2, f3, f4, f5, f6, f7, f8⟩ := mayRepL_facts h
  obtain ⟨h1, h2⟩ := reply_yes h
  have hu : unframeL (replyL r) = (bodyL 2 [r.status, r.session, r.why] r.id r.text, [], 0) := unframe_frame (reply_body h)
  have hb : bodyL 2 [r.status, r.session, r.why] r.id r.text = 2 :: (putZ r.status ++ (putZ r.session ++ (putZ r.why ++ (textL r.id ++ (textL r.text ++ []))))) := by simp [bodyL, numL]
  have e0 := num_back (z := r.status) (by omega) (by omega) (putZ r.session ++ (putZ r.why ++ (textL r.id ++ (textL r.text ++ []))))
  have e1 := num_back (z := r.session) (by omega) (by omega) (putZ r.why ++ (textL r.id ++ (textL r.text ++ [])))
  have e2 := num_back (z := r.why) (by omega) (by omega) (textL r.id ++ (textL r.text ++ []))
  have e3 := text_back (s := r.id) (m := 8) f1 (by omega) (textL r.text ++ [])
  have e4 := text_back (s := r.text) (m := 1000) f2 (by omega) []
  have hx : xReplyOf (bodyL 2 [r.status, r.session, r.why] r.id r.text) = r := by
    rw [hb]
    unfold xReplyOf
    rw [List.drop_succ_cons, List.drop_zero]
    simp only [e0, e1, e2, e3, e4, List.drop_left, str_back]
    rw [Int.toNat_of_nonneg (by omega), Int.toNat_of_nonneg (by omega), Int.toNat_of_nonneg (by omega)]
  unfold xReadReplyL
  rw [hu]
  dsimp only
  rw [if_neg, hx]
  · unfold repEnd
    exact if_pos ⟨rfl, h1, h2.symm⟩
  · rw [body_first]
    simp [bodyL]

/-- what is read is made anew the same -/
theorem reqEnd_inv (b : List UInt8) (r : Req) (ok : Bool) : (reqEnd b r ok = (r, 0) ∧ mayL r = true ∧ b = askL r) ∨ reqEnd b r ok = (Req.zero, 5) := by
  unfold reqEnd
  split
  · rename_i h
    have hm := ask_zero h.2.1
    exact .inl ⟨rfl, hm, by rw [h.2.2, (ask_yes hm).2]⟩
  · exact .inr rfl
theorem repEnd_inv (b : List UInt8) (r : Rep) (ok : Bool) : (repEnd b r ok = (r, 0) ∧ mayRepL r = true ∧ b = replyL r) ∨ repEnd b r ok = (Rep.zero, 5) := by
  unfold repEnd
  split
  · rename_i h
    have hm := reply_zero h.2.1
    exact .inl ⟨rfl, hm, by rw [h.2.2, (reply_yes hm).2]⟩
  · exact .inr rfl
theorem readAsk_inv (b : List UInt8) : (∃ r, readAskL b = (r, 0) ∧ mayL r = true ∧ b = askL r) ∨ readAskL b = (Req.zero, 5) := by
  rcases reqEnd_inv b (reqOf (parseL b 1 2)) (parseL b 1 2).2.2.2 with h | h
  · exact .inl ⟨_, h⟩
  · exact .inr h
theorem readReply_inv (b : List UInt8) : (∃ r, readReplyL b = (r, 0) ∧ mayRepL r = true ∧ b = replyL r) ∨ readReplyL b = (Rep.zero, 5) := by
  rcases repEnd_inv b (repOf (parseL b 2 3)) (parseL b 2 3).2.2.2 with h | h
  · exact .inl ⟨_, h⟩
  · exact .inr h
theorem xReadAsk_inv (b : List UInt8) : (∃ r, xReadAskL b = (r, 0) ∧ mayL r = true ∧ b = askL r) ∨ xReadAskL b = (Req.zero, 5) := by
  unfold xReadAskL
  split
  · exact .inr rfl
  · rcases reqEnd_inv b (xAskOf (unframeL b).1) true with h | h
    · exact .inl ⟨_, h⟩
    · exact .inr h
theorem xReadReply_inv (b : List UInt8) : (∃ r, xReadReplyL b = (r, 0) ∧ mayRepL r = true ∧ b = replyL r) ∨ xReadReplyL b = (Rep.zero, 5) := by
  unfold xReadReplyL
  split
  · exact .inr rfl
  · rcases repEnd_inv b (xReplyOf (unframeL b).1) true with h | h
    · exact .inl ⟨_, h⟩
    · exact .inr h

/-- THE TWO READ ALIKE -/
theorem read_ask (b : List UInt8) : xReadAskL b = readAskL b := by
  rcases xReadAsk_inv b with ⟨r, h1, h2, rfl⟩ | h
  · rw [h1, readAsk_back h2]
  · rcases readAsk_inv b with ⟨r, h1, h2, rfl⟩ | h'
    · rw [h1, xReadAsk_back h2]
    · rw [h, h']
theorem read_reply (b : List UInt8) : xReadReplyL b = readReplyL b := by
  rcases xReadReply_inv b with ⟨r, h1, h2, rfl⟩ | h
  · rw [h1, readReply_back h2]
  · rcases readReply_inv b with ⟨r, h1, h2, rfl⟩ | h'
    · rw [h1, xReadReply_back h2]
    · rw [h, h']
end Go.Proofs.YtbaombnnagidcaaDoor
