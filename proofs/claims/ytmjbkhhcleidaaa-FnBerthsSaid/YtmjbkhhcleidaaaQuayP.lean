/- FnStays and FnBerths: the plain mathematics. No condition. -/
import Derived.Test.YtmjbkhhcleidaaaQuayF
import Derived.Test.YtmjbkhhcleidaaaQuayH
import Derived.Test.YtmjbkhhcleidaaaQuayI
import Derived.Test.YtmjbkhhcleidaaaQuayK
namespace Go.Proofs.Ytmjbkhhcleidaaa
open Go.RowKit
/-! ### Spans that do not touch fit -/
/-- How many of the spans hold the place x. -/
def holdN (x : Int) : List (Int × Int) → Nat
  | [] => 0
  | a :: L => (if a.1 ≤ x ∧ x < a.1 + a.2 then 1 else 0) + holdN x L
def holdTo (L : List (Int × Int)) : Nat → Nat
  | 0 => 0
  | n + 1 => holdTo L n + holdN (n : Int) L
def spanL : List (Int × Int) → Int
  | [] => 0
  | a :: L => a.2 + spanL L
theorem holdTo_nil : ∀ n, holdTo [] n = 0
  | 0 => rfl
  | n + 1 => by simp [holdTo, holdTo_nil n, holdN]
theorem holdTo_cons (a : Int × Int) (L : List (Int × Int)) (h0 : 0 ≤ a.1) (h1 : 0 ≤ a.2) : ∀ n : Nat, (holdTo (a :: L) n : Int) = (min (n : Int) (a.1 + a.2) - min (n : Int) a.1) + holdTo L n
  | 0 => by simp [holdTo]; omega
  | n + 1 => by
    have ih := holdTo_cons a L h0 h1 n
    simp only [holdTo, holdN, Int.natCast_add, ih]
    split <;> simp <;> omega
theorem holdN_zero {x : Int} : ∀ {L : List (Int × Int)}, (∀ b ∈ L, ¬ (b.1 ≤ x ∧ x < b.1 + b.2)) → holdN x L = 0
  | [], _ => rfl
  | b :: L, h => by
    simp only [holdN, if_neg (h b (.head _)), holdN_zero fun c hc => h c (.tail _ hc)]
theorem holdN_le {x : Int} : ∀ {L : List (Int × Int)}, L.Pairwise (fun a b => a.1 + a.2 ≤ b.1 ∨ b.1 + b.2 ≤ a.1) → holdN x L ≤ 1
  | [], _ => Nat.zero_le _
  | a :: L, h => by
    obtain ⟨h1, h2⟩ := List.pairwise_cons.1 h
    by_cases e : a.1 ≤ x ∧ x < a.1 + a.2
    · simp only [holdN, if_pos e]
      rw [holdN_zero fun b hb hh => by rcases h1 b hb with h3 | h3 <;> omega]
      exact Nat.le_refl _
    · simp only [holdN, if_neg e]
      have := holdN_le h2 (x := x)
      omega
theorem holdTo_le {L : List (Int × Int)} (h : L.Pairwise (fun a b => a.1 + a.2 ≤ b.1 ∨ b.1 + b.2 ≤ a.1)) : ∀ n, holdTo L n ≤ n
  | 0 => Nat.le_refl _
  | n + 1 => by
    have h1 := holdTo_le h n
    have h2 := holdN_le h (x := (n : Int))
    simp only [holdTo]; omega
theorem holdTo_all : ∀ {L : List (Int × Int)} {n : Nat}, (∀ a ∈ L, 0 ≤ a.1 ∧ 0 ≤ a.2 ∧ a.1 + a.2 ≤ (n : Int)) → (holdTo L n : Int) = spanL L
  | [], n, _ => by rw [holdTo_nil]; rfl
  | a :: L, n, h => by
    have h1 := h a (.head _)
    rw [holdTo_cons a L h1.1 h1.2.1, holdTo_all fun b hb => h b (.tail _ hb)]
    simp only [spanL]; omega
theorem span_fit {L : List (Int × Int)} {m : Int} (hm : 0 ≤ m) (h : L.Pairwise (fun a b => a.1 + a.2 ≤ b.1 ∨ b.1 + b.2 ≤ a.1)) (hb : ∀ a ∈ L, 0 ≤ a.1 ∧ 0 ≤ a.2 ∧ a.1 + a.2 ≤ m) : spanL L ≤ m := by
  have h1 := holdTo_all (n := m.toNat) (L := L) (fun a ha => by have := hb a ha; omega)
  have h2 := holdTo_le h m.toNat
  omega
/-! ### What stays take -/
open Classical in
noncomputable def takeS (id t : Int) : List Stay → Int
  | [] => 0
  | s :: L => (if s.quay = id ∧ s.lies t then s.meters else 0) + takeS id t L
theorem takeS_app (id t : Int) : ∀ A B : List Stay, takeS id t (A ++ B) = takeS id t A + takeS id t B
  | [], B => by simp [takeS]
  | a :: A, B => by
    simp only [List.cons_append, takeS, takeS_app id t A B]; omega
theorem takeTo_eq (ss : List Stay) (id t : Int) : ∀ k : Nat, k ≤ ss.length → takeTo ss id t k = takeS id t (ss.take k)
  | 0, _ => by simp [takeTo, takeS]
  | k + 1, hk => by
    have ih := takeTo_eq ss id t k (by omega)
    rw [List.take_succ_eq_append_getElem (by omega : k < ss.length), takeS_app, ← ih]
    by_cases h : ss[k].quay = id ∧ ss[k].lies t
    · rw [takeTo_yes (by omega) h.1 h.2]; simp [takeS, h]
    · rw [takeTo_no (by omega) h]; simp [takeS, h]
theorem takeTo_put (ss : List Stay) (s : Stay) (t : Int) (h : s.lies t) : takeTo (putL ss s) s.quay t (putL ss s).length = takeTo ss s.quay t ss.length + s.meters := by
  rw [takeTo_eq _ _ _ _ (Nat.le_refl _), takeTo_eq _ _ _ _ (Nat.le_refl _), List.take_length, List.take_length]
  unfold putL
  have e : takeS s.quay t (ss.take (putK ss s) ++ ss.drop (putK ss s)) = takeS s.quay t ss := by rw [List.take_append_drop]
  rw [takeS_app] at e
  rw [takeS_app]
  simp only [takeS, if_pos (show s.quay = s.quay ∧ s.lies t from ⟨rfl, h⟩)]
  omega
noncomputable def spansOf (id t : Int) (ss : List Stay) : List (Int × Int) := (ss.filter fun s => dec (s.quay = id ∧ s.lies t)).map fun s => (s.from_, s.meters)
theorem takeS_span (id t : Int) : ∀ ss : List Stay, takeS id t ss = spanL (spansOf id t ss)
  | [] => rfl
  | s :: L => by
    have ih := takeS_span id t L
    unfold spansOf at ih ⊢
    by_cases h : s.quay = id ∧ s.lies t
    · rw [List.filter_cons_of_pos (p := fun s : Stay => dec (s.quay = id ∧ s.lies t)) (dec_true h), List.map_cons]
      simp only [takeS, if_pos h, spanL, ih]
    · rw [List.filter_cons_of_neg (p := fun s : Stay => dec (s.quay = id ∧ s.lies t)) (by rw [dec_false h]; exact Bool.false_ne_true)]
      simp only [takeS, if_neg h, ih]; omega
theorem take_fit {l : List Quay} {ss : List Stay} {id t : Int} {i : Nat} (hi : i < l.length) (h : StaysOk l ss) (e : quayAt l id = (i : Int)) : takeTo ss id t ss.length ≤ l[i].long := by
  obtain ⟨hq, hlen, hmem, hpw⟩ := StaysOk.parts.1 h
  have hp := QuaysOk.pt hq hi
  unfold Quay.ok at hp
  rw [takeTo_eq _ _ _ _ (Nat.le_refl _), List.take_length, takeS_span]
  have hm : ∀ s ∈ ss.filter (fun s => dec (s.quay = id ∧ s.lies t)), (s.quay = id ∧ s.lies t) ∧ StayAt l[i] s := fun s hs => by
    obtain ⟨h1, h2⟩ := List.mem_filter.1 hs
    have h3 : s.quay = id ∧ s.lies t := by
      by_cases hh : s.quay = id ∧ s.lies t
      · exact hh
      · rw [dec_false hh] at h2; cases h2
    exact ⟨h3, (StayOk.at_ hi (by rw [h3.1]; exact e)).1 (hmem s h1)⟩
  refine span_fit (by omega) ?_ (fun a ha => ?_)
  · unfold spansOf
    rw [List.pairwise_map]
    refine List.Pairwise.imp_of_mem ?_ (hpw.filter _)
    intro a b ha hb hab
    have h1 := hm a ha
    have h2 := hm b hb
    have h3 := hab.2
    unfold Clash at h3
    unfold Stay.lies at h1 h2
    have e1 : a.quay = b.quay := by rw [h1.1.1, h2.1.1]
    dsimp only
    omega
  · unfold spansOf at ha
    obtain ⟨s, hs, rfl⟩ := List.mem_map.1 ha
    have h1 := (hm s hs).2
    unfold StayAt at h1
    dsimp only
    omega
theorem free_law (l : List Quay) (ss : List Stay) (id t : Int) : (∃ n : Int, freeRes l ss id t = .tuple #[.int .i64 n, .bool true] ∧ 0 ≤ n) ∨ freeRes l ss id t = .tuple #[.int .i64 0, .bool false] := by
  by_cases h : FreeOk l ss id t
  · obtain ⟨h1, h2, h3⟩ := h
    rcases quayAt_spec l id with ⟨i, hi, _, e⟩ | e
    · refine .inl ⟨_, freeRes_yes hi h1 e h3, ?_⟩
      have := take_fit (t := t) hi h1 e
      omega
    · omega
  · exact .inr (optI_no h)
/-! ### A ship that is placed -/
structure Placed (l : List Quay) (ss : List Stay) (m r b e q f : Int) : Prop where
  stays : StaysOk l ss
  put : CanPut l ss ⟨q, f, m, r, b, e⟩
  after : StaysOk l (putL ss ⟨q, f, m, r, b, e⟩)
  free : ∃ x : Int, (-10000 ≤ x ∧ x ≤ 10000) ∧ freeRes l ss q b = .tuple #[.int .i64 x, .bool true] ∧ freeRes l (putL ss ⟨q, f, m, r, b, e⟩) q b = .tuple #[.int .i64 (x - m), .bool true] ∧ (5 ≤ m ∧ m ≤ 400)
theorem put_at {ss : List Stay} (s : Stay) : ∀ k : Nat, k ≤ ss.length → (∀ j (_ : j < k) (h : j < ss.length), ss[j].begin_ ≤ s.begin_) → ∃ k, PutAt ss s k := by
  have key : ∀ (d k : Nat), ss.length - k = d → k ≤ ss.length → (∀ j (_ : j < k) (h : j < ss.length), ss[j].begin_ ≤ s.begin_) → ∃ k, PutAt ss s k := by
    intro d
    induction d with
    | zero => exact fun k hd hk h => ⟨k, hk, h, fun hl => by omega⟩
    | succ d ih =>
      intro k hd hk h
      by_cases e : ss[k].begin_ ≤ s.begin_
      · refine ih (k + 1) (by omega) (by omega) (fun j hj hl => ?_)
        by_cases ej : j = k
        · subst ej; exact e
        · exact h j (by omega) hl
      · exact ⟨k, hk, h, fun _ => by omega⟩
  exact fun k => key _ k rfl
theorem putL_ok {l : List Quay} {ss : List Stay} {s : Stay} (h : StaysOk l ss) : StaysOk l (putL ss s) ↔ CanPut l ss s := by
  obtain ⟨k, hk⟩ := put_at (ss := ss) s 0 (Nat.zero_le _) (fun j hj => by omega)
  unfold putL
  rw [hk.eq]
  exact put_iff h hk
theorem place_law (l : List Quay) (ss : List Stay) (m r b e : Int) : (∃ q f : Int, placeRes l ss m r b e = .tuple #[.int .i64 q, .int .i64 f, .bool true] ∧ Placed l ss m r b e q f) ∨ placeRes l ss m r b e = .tuple #[.int .i64 0, .int .i64 0, .bool false] := by
  by_cases h : StaysOk l ss ∧ ∃ s, LieFirst l ss m r b e s
  · obtain ⟨hok, ⟨i, f⟩, hf⟩ := h
    obtain ⟨⟨hi, _⟩, hl, _⟩ := id hf
    dsimp only at hi hl
    rw [LieAt.eq hi] at hl
    refine .inl ⟨_, _, placeRes_yes hok hi hf, hok, hl, (putL_ok hok).2 hl, ?_⟩
    obtain ⟨j, hj, ej, hs⟩ := hl.1
    dsimp only at ej
    unfold StayAt at hs
    dsimp only at hs
    have hlies : (⟨l[i].id, (f : Int), m, r, b, e⟩ : Stay).lies b := by unfold Stay.lies; dsimp only; omega
    have hput := takeTo_put ss ⟨l[i].id, (f : Int), m, r, b, e⟩ b hlies
    dsimp only at hput
    have hfit := take_fit (t := b) hj hok ej
    have hbd := takeTo_bd (id := l[i].id) (t := b) (StaysOk.sane2 hok) ss.length (Nat.le_refl _)
    have hlq := QuaysOk.pt hok.1 hj
    unfold Quay.ok at hlq
    refine ⟨_, ?_, freeRes_yes hj hok ej (by omega), ?_, by omega⟩
    · omega
    · rw [freeRes_yes hj ((putL_ok hok).2 hl) ej (by omega), hput]
      congr 4
      omega
  · exact .inr (optII_no h)
/-! ### Clashing is mutual -/
theorem clashRes_symm (l : List Quay) (a b : Stay) : clashRes l b a = clashRes l a b := by
  unfold clashRes optB
  have e1 : dec (QuaysOk l ∧ StayOk l b ∧ StayOk l a) = dec (QuaysOk l ∧ StayOk l a ∧ StayOk l b) := dec_congr ⟨fun h => ⟨h.1, h.2.2, h.2.1⟩, fun h => ⟨h.1, h.2.2, h.2.1⟩⟩
  have e2 : dec ((QuaysOk l ∧ StayOk l b ∧ StayOk l a) ∧ Clash b a) = dec ((QuaysOk l ∧ StayOk l a ∧ StayOk l b) ∧ Clash a b) := dec_congr ⟨fun h => ⟨⟨h.1.1, h.1.2.2, h.1.2.1⟩, h.2.symm⟩, fun h => ⟨⟨h.1.1, h.1.2.2, h.1.2.1⟩, h.2.symm⟩⟩
  rw [e1, e2]
theorem clashRes_ex (l : List Quay) (a b : Stay) : ∃ x y : Bool, clashRes l a b = .tuple #[.bool x, .bool y] := ⟨_, _, rfl⟩
/-! ### A delayed stay -/
def Stay.by (s : Stay) (k : Int) : Stay := ⟨s.quay, s.from_, s.meters, s.draught, s.begin_ + k, s.end_ + k⟩
theorem delay_law (l : List Quay) (ss : List Stay) (s : Stay) : (∃ k : Int, delayRes l ss s = .tuple #[.int .i64 k, .bool true] ∧ (0 ≤ k ∧ k ≤ 10000) ∧ StaysOk l ss ∧ CanPut l ss (s.by k) ∧ (0 < k → ¬ CanPut l ss (s.by (k - 1))) ∧ (0 ≤ s.begin_ ∧ s.begin_ < s.end_ ∧ s.end_ ≤ 10000)) ∨ delayRes l ss s = .tuple #[.int .i64 0, .bool false] := by
  by_cases h : DelayOk l ss s
  · obtain ⟨h1, h2, h3, k, hk, h4⟩ := h
    have hs := h2.sane h1.1
    unfold Stay.sane at hs
    refine .inl ⟨_, delayRes_yes h1 h2 h3 hk h4, by omega, h1, (CanPut.later h2 h4).2 ⟨h3, hk.1⟩, fun h0 hc => ?_, by omega⟩
    have h5 := hk.2 (k - 1) (by omega)
    refine h5 fun hx => hc.2.2 ?_
    have e : s.by ((k : Int) - 1) = s.later (k - 1) := by
      unfold Stay.by Stay.later
      rw [show (k : Int) - 1 = ((k - 1 : Nat) : Int) by omega]
    rw [e]; exact hx
  · exact .inr (optI_no h)
/-! ### The deepest ship -/
theorem deep_law (l : List Quay) (id : Int) : (∃ d : Int, deepRes l id = .tuple #[.int .i64 d, .bool true] ∧ (0 ≤ d ∧ d ≤ 2000) ∧ StaysOk l [⟨id, 0, 5, d, 0, 1⟩] ∧ ¬ StaysOk l [⟨id, 0, 5, d + 1, 0, 1⟩]) ∨ deepRes l id = .tuple #[.int .i64 0, .bool false] := by
  by_cases h : QuaysOk l ∧ 0 ≤ quayAt l id
  · obtain ⟨hq, h0⟩ := h
    rcases quayAt_spec l id with ⟨i, hi, _, e⟩ | e
    · have hp := QuaysOk.pt hq hi
      unfold Quay.ok at hp
      refine .inl ⟨_, deepRes_yes hi hq e, by omega, ?_, fun hc => ?_⟩
      · refine ⟨hq, by simp, fun j _ hj => ?_⟩
        obtain rfl : j = 0 := by simp at hj; exact hj
        refine ⟨⟨i, hi, e, ?_⟩, fun hh => by omega, fun ⟨q, hh, _⟩ => by simp at hh⟩
        unfold StayAt
        simp only [List.getElem_cons_zero]
        omega
      · have h1 := (hc.2.2 0 (by simp) (by simp)).1
        rw [StayOk.at_ hi e] at h1
        unfold StayAt at h1
        simp only [List.getElem_cons_zero] at h1
        omega
    · omega
  · exact .inr (optI_no h)
end Go.Proofs.Ytmjbkhhcleidaaa
