/- Times: their texts. -/
import Derived.Test.YthbjkibclbgjoaaMomWalks
import Derived.Test.YthbjkibclbgjoaaMomMath
import Derived.Test.YthbjkibclbgjoaaMemW
import Derived.OwnWalk
import Derived.Laws.IdiomStrings
namespace Go.Proofs.Ythbjkibclbgjoaa
open Go.RowKit

theorem conv_whole {W : World} {B cap : Nat} {xs : List Int} (h : Whole W B 5 (xs.map (Value.int .u8)).toArray) (hx : ∀ x ∈ xs, 0 ≤ x ∧ x < 256) :
    (convert 84 9 (.slice (some ⟨B, 0, none⟩) xs.length cap)).run Try.prog W = .ok (.string (Mom.str xs)) W := by
  have k := run_convert_bytes_back (P := Try.prog) W 84 9 5 ⟨B, 0, none⟩ cap (xs.map Mom.byte) Try.underlying84 Try.underlying5 Try.underlying9 (by
    intro j hj
    have hj' : j < xs.length := by simpa using hj
    have hb := hx _ (List.getElem_mem hj')
    rw [show (Addr.add ⟨B, 0, none⟩ j) = ⟨B, j, none⟩ by cases j <;> simp [Addr.add]]
    refine (h.cell j).trans ?_
    simp only [List.getElem?_toArray, List.getElem?_map, List.getElem?_eq_getElem hj', Option.map_some, List.getElem_map]
    rw [Mom.byte_toNat hb.1 hb.2])
  simpa [Mom.str] using k
theorem Try.infoByte : (Try.prog.info? 5).map (fun i => (i.zero, i.size, i.bytes)) = some (some (.int .u8 0), 1, 1) := by kernel_rfl
theorem pad_set (k : Nat) (T : List Int) (x : Int) : ((((List.replicate (k + 1) 0 ++ T).map (Value.int .u8)).toArray).setIfInBounds k (.int .u8 x)) = (((List.replicate k 0 ++ (x :: T)).map (Value.int .u8)).toArray) := by
  apply Array.ext'
  rw [Array.toList_setIfInBounds]
  simp only [List.replicate_succ', List.append_assoc, List.map_append, List.singleton_append, List.map_cons]
  rw [List.set_append_right _ _ (by simp)]
  simp

theorem whole_of_own {w : World} {base g n : Nat} {e : TypeId} {xs : List Value} (h : w.ownsRow base e 1 (.slice (some ⟨g, 0, none⟩) n n) n xs) : Whole w g e xs.toArray := by
  obtain ⟨hl, hn | ⟨g', cap, cur, he, hb, hg, h1, h2, h3, h4⟩⟩ := h
  · cases hn.1
  · cases he
    have : cur = xs.toArray := by
      apply Array.ext'
      show cur.toList = xs
      rw [← h4]
      exact (List.take_of_length_le (by rw [Array.length_toList, h3]; omega)).symm
    rw [← this]
    exact hg
theorem made_bytes (n : Nat) : (madeCells #[Value.int .u8 0] n).toList.toArray = ((List.replicate n 0 ++ ([] : List Int)).map (Value.int .u8)).toArray := by
  apply Array.ext
  · simp [madeCells]
  · intro i h1 h2
    simp [madeCells, Nat.mod_one]

set_option maxHeartbeats 1000000 in
theorem digits_any (n : Int) (wd : Nat) (h0 : 0 ≤ n) (h1 : n ≤ 4000000000) (hw : wd ≤ 9) (w : World) : Calls Try.prog 55 #[.int .i64 n, .int .i64 wd] w fun e w' => e = .returned (.string (Mom.str (Mom.dg wd n))) ∧ Below w.heap.size w w' := by
  obtain ⟨i0, hi, hz0, hz1, hz2⟩ := info_parts Try.infoByte
  go_enter Try.func55, Try.ntmps55
  go_wp2_with (at_make; refine wpList_make_full _ rfl _ _ _ rfl w.heap.size 5 i0 (.int .u8 0) 1 Try.underlying84 hi hz0 hz1 .i64 .i64 (wd : Int) (wd : Int) wd rfl rfl rfl rfl (by rw [hz2]; omega) (by unfold maxLen; omega) (Nat.le_refl _) ?_)
  intro w1 hown hg
  have hw1 := whole_of_own hown
  rw [made_bytes] at hw1
  have hb1 : Below w.heap.size w w1 := ⟨hg.os, hg.tape, hg.output, hg.size, fun i hi => hg.block i hi (by simp)⟩
  clear hown hg
  go_wp2
  go_loopw [0, 6] (fun m i wr => ∃ (k : Nat) (q : Int) (T : List Int), k ≤ wd ∧ k + T.length = wd ∧ i = .int .i64 ((k : Int) - 1) ∧ m = .int .i64 q ∧ (0 ≤ q ∧ q ≤ n) ∧ Hid (Mom.dg wd n = Mom.dg k q ++ T) ∧ Whole wr w.heap.size 5 ((List.replicate k 0 ++ T).map (Value.int .u8)).toArray ∧ Below w.heap.size w wr) (fun _ i _ => (intOf i + 1).toNat)
  case atStart => exact ⟨wd, n, [], Nat.le_refl _, by simp, rfl, rfl, by omega, Lib.hid (by simp), hw1, hb1⟩
  case round =>
    obtain ⟨k, q, T, hk, hT, rfl, rfl, hq, HD, hwr, hbr⟩ := hrel
    cases k with
    | zero =>
      have hc := conv_whole (cap := wd) hwr (fun x hx => by
        have : x ∈ Mom.dg wd n := by rw [HD.out]; simpa [Mom.dg] using hx
        have := Mom.dg_bd wd n x this
        omega)
      simp only [List.replicate_zero, List.nil_append, show T.length = wd by omega] at hc
      have HE : Hid (Mom.dg wd n = T) := Lib.hid (by rw [HD.out]; rfl)
      go_wp2
      go_ret
      rw [HE.out]
      exact ⟨rfl, hbr⟩
    | succ k =>
      have hc : ∃ v, wr.cell? ⟨w.heap.size, k, none⟩ = some v := by
        rw [hwr.cell]
        exact ⟨_, by rw [List.getElem?_toArray, List.getElem?_eq_getElem (by simp; omega)]⟩
      obtain ⟨v, hc⟩ := hc
      have hf := hwr.frozen k
      have e1 : ((k + 1 : Nat) : Int) - 1 = k := by omega
      rw [e1]
      go_wp2
      go_roundw
      case rel =>
        refine ⟨k, q / 10, (48 + q % 10) :: T, by omega, by simp; omega, rfl, by go_num, by omega, Lib.hid (by rw [HD.out]; simp [Mom.dg]), ?_, hbr.setCell (Nat.le_refl _) _⟩
        rw [← pad_set]
        exact hwr.set k _
      case measure => simp [intOf]

theorem dg_size (k : Nat) (n : Int) : (Mom.str (Mom.dg k n)).size = k := by rw [Mom.str_size, Mom.dg_length]
theorem lit_str : (⟨#[45]⟩ : ByteArray) = Mom.str [45] ∧ (⟨#[58]⟩ : ByteArray) = Mom.str [58] ∧ (⟨#[46]⟩ : ByteArray) = Mom.str [46] ∧ (⟨#[84]⟩ : ByteArray) = Mom.str [84] ∧ (⟨#[90]⟩ : ByteArray) = Mom.str [90] ∧ (⟨#[43]⟩ : ByteArray) = Mom.str [43] ∧ (⟨#[]⟩ : ByteArray) = Mom.str [] := by
  refine ⟨rfl, rfl, rfl, rfl, rfl, rfl, rfl⟩

theorem dateText_any (n : Int) (h : Cal.kn n) (w : World) : Calls Try.prog 33 #[.int .i64 n] w fun e w' => e = .returned (.string (Mom.str (Mom.ymd (Cal.Yr n) (Cal.Mo n) (Cal.Da n)))) ∧ Below w.heap.size w w' := by
  have HD := Lib.hid (date_at n · h)
  obtain ⟨y1, y2, m1, m2, d1, d2⟩ := Cal.dt_bd h
  clear h
  have HT : Hid (Mom.str (Mom.ymd (Cal.Yr n) (Cal.Mo n) (Cal.Da n)) = Mom.str (Mom.dg 4 (Cal.Yr n)) ++ ⟨#[45]⟩ ++ Mom.str (Mom.dg 2 (Cal.Mo n)) ++ ⟨#[45]⟩ ++ Mom.str (Mom.dg 2 (Cal.Da n))) := Lib.hid (by rw [lit_str.1]; simp only [Mom.str_append]; rfl)
  have H4 := Lib.hid (digits_any (Cal.Yr n) 4 (by omega) (by omega) (by omega))
  have H2 := Lib.hid (digits_any (Cal.Mo n) 2 (by omega) (by omega) (by omega))
  have H3 := Lib.hid (digits_any (Cal.Da n) 2 (by omega) (by omega) (by omega))
  have s1 := dg_size 4 (Cal.Yr n)
  have s2 := dg_size 2 (Cal.Mo n)
  have s3 := dg_size 2 (Cal.Da n)
  rw [HT.out]
  clear HT
  generalize Mom.str (Mom.dg 4 (Cal.Yr n)) = t1 at *
  generalize Mom.str (Mom.dg 2 (Cal.Mo n)) = t2 at *
  generalize Mom.str (Mom.dg 2 (Cal.Da n)) = t3 at *
  go_enter Try.func33, Try.ntmps33
  go_wp2_with fail
  refine (HD.out _).mono ?_; rintro e w1 ⟨rfl, hb1⟩
  go_wp2_with fail
  refine (H4.out _).mono ?_; rintro e w2 ⟨rfl, hb2⟩
  replace hb1 := below_then hb1 hb2; clear hb2
  go_wp2_with fail
  refine (H2.out _).mono ?_; rintro e w2 ⟨rfl, hb2⟩
  replace hb1 := below_then hb1 hb2; clear hb2
  go_wp2_with fail
  refine (H3.out _).mono ?_; rintro e w2 ⟨rfl, hb2⟩
  replace hb1 := below_then hb1 hb2; clear hb2
  go_wp2_with fail
  go_ret
  exact ⟨rfl, hb1⟩

set_option maxHeartbeats 1000000 in
theorem clockText_any (n : Int) (h0 : 0 ≤ n) (h1 : n ≤ 86399999999999) (w : World) : Calls Try.prog 34 #[.int .i64 n] w fun e w' => e = .returned (.string (Mom.str (Mom.ctx n))) ∧ Below w.heap.size w w' := by
  have b1 : 0 ≤ n / 1000000000 ∧ n / 1000000000 ≤ 86399 := by omega
  have HT : Hid (Mom.str (Mom.hms n) = Mom.str (Mom.dg 2 (n / 1000000000 / 3600)) ++ ⟨#[58]⟩ ++ Mom.str (Mom.dg 2 (n / 1000000000 / 60 % 60)) ++ ⟨#[58]⟩ ++ Mom.str (Mom.dg 2 (n / 1000000000 % 60))) := Lib.hid (by rw [lit_str.2.1]; simp only [Mom.str_append]; rfl)
  have H4 := Lib.hid (digits_any (n / 1000000000 / 3600) 2 (by omega) (by omega) (by omega))
  have H2 := Lib.hid (digits_any (n / 1000000000 / 60 % 60) 2 (by omega) (by omega) (by omega))
  have H3 := Lib.hid (digits_any (n / 1000000000 % 60) 2 (by omega) (by omega) (by omega))
  have H9 := Lib.hid (digits_any (n % 1000000000) 9 (by omega) (by omega) (by omega))
  have s1 := dg_size 2 (n / 1000000000 / 3600)
  have s2 := dg_size 2 (n / 1000000000 / 60 % 60)
  have s3 := dg_size 2 (n / 1000000000 % 60)
  have HX : Hid (Mom.ctx n = if n % 1000000000 = 0 then Mom.hms n else Mom.hms n ++ [46] ++ Mom.trim (Mom.dg 9 (n % 1000000000))) := Lib.hid rfl
  generalize Mom.str (Mom.dg 2 (n / 1000000000 / 3600)) = t1 at *
  generalize Mom.str (Mom.dg 2 (n / 1000000000 / 60 % 60)) = t2 at *
  generalize Mom.str (Mom.dg 2 (n / 1000000000 % 60)) = t3 at *
  by_cases hz : n % 1000000000 = 0
  · have tz : (n % 1000000000 == 0) = true := by simpa using hz
    rw [HX.out, if_pos hz, HT.out]
    clear hz HX H9
    go_enter Try.func34, Try.ntmps34
    go_wp2_with fail
    refine (H4.out _).mono ?_; rintro e w1 ⟨rfl, hb1⟩
    go_wp2_with fail
    refine (H2.out _).mono ?_; rintro e w2 ⟨rfl, hb2⟩
    replace hb1 := below_then hb1 hb2; clear hb2
    go_wp2_with fail
    refine (H3.out _).mono ?_; rintro e w2 ⟨rfl, hb2⟩
    replace hb1 := below_then hb1 hb2; clear hb2
    go_wp2_with fail
    go_ret
    exact ⟨rfl, hb1⟩
  · have tz : (n % 1000000000 == 0) = false := by simpa using hz
    have HN : Hid (Mom.trim (Mom.dg 9 (n % 1000000000)) ≠ []) := Lib.hid (fun e => hz (by have := Mom.trim_dg 9 _ e; simpa using this))
    have HR : Hid (Mom.str (Mom.ctx n) = t1 ++ ⟨#[58]⟩ ++ t2 ++ ⟨#[58]⟩ ++ t3 ++ ⟨#[46]⟩ ++ Mom.str (Mom.trim (Mom.dg 9 (n % 1000000000)))) := Lib.hid (by rw [HX.out, if_neg hz, ← HT.out, lit_str.2.2.1]; simp only [Mom.str_append])
    have HL := Lib.hid (Mom.dg_bd 9 (n % 1000000000))
    have hl9 := Mom.dg_length 9 (n % 1000000000)
    rw [HR.out]
    clear hz HX HT HR
    generalize Mom.dg 9 (n % 1000000000) = l at *
    go_enter Try.func34, Try.ntmps34
    go_wp2_with fail
    refine (H4.out _).mono ?_; rintro e w1 ⟨rfl, hb1⟩
    go_wp2_with fail
    refine (H2.out _).mono ?_; rintro e w2 ⟨rfl, hb2⟩
    replace hb1 := below_then hb1 hb2; clear hb2
    go_wp2_with fail
    refine (H3.out _).mono ?_; rintro e w2 ⟨rfl, hb2⟩
    replace hb1 := below_then hb1 hb2; clear hb2
    go_wp2_with fail
    refine (H9.out _).mono ?_; rintro e w2 ⟨rfl, hb2⟩
    replace hb1 := below_then hb1 hb2; clear hb2
    go_wp2_with fail
    go_loop [6] (fun f => ∃ p : List Int, f = .string (Mom.str p) ∧ p.length ≤ 9 ∧ Hid (Mom.trim p = Mom.trim l ∧ ∀ x ∈ p, 48 ≤ x ∧ x ≤ 57)) (fun f => (match f with | .string x => x.size | _ => 0))
    case atStart => exact ⟨l, rfl, by omega, Lib.hid ⟨rfl, HL.out⟩⟩
    case round =>
      obtain ⟨p, rfl, hp, HP⟩ := hrel
      have hne : p ≠ [] := by
        intro e
        subst e
        exact HN.out HP.out.1.symm
      obtain ⟨q, x, rfl⟩ : ∃ q x, p = q ++ [x] := ⟨p.dropLast, p.getLast hne, (List.dropLast_concat_getLast hne).symm⟩
      have hxb := HP.out.2 x (by simp)
      have hsz := Mom.str_size (q ++ [x])
      have hcut := Mom.str_cut q x
      have hlast := Mom.str_last q x (by omega) (by rw [hsz]; simp)
      simp only [List.length_append, List.length_cons, List.length_nil] at hsz hp
      have HY : Hid (x ≠ 48 → Mom.str (q ++ [x]) = Mom.str (Mom.trim l)) := Lib.hid (fun hx => by rw [← HP.out.1, Mom.trim_other _ _ hx])
      have HZ : Hid (x = 48 → Mom.trim q = Mom.trim l) := Lib.hid (fun hx => by rw [← HP.out.1, hx, Mom.trim_zero])
      have HQ : Hid (∀ z ∈ q, 48 ≤ z ∧ z ≤ 57) := Lib.hid (fun z hz => HP.out.2 z (by simp [hz]))
      clear HP hne
      generalize Mom.str (q ++ [x]) = y at *
      have e2 : y.size - 1 = q.length := by omega
      rw [e2] at hcut
      have hl2 : ((y[q.length]'(by omega)).toNat : Int) = x := by simpa only [e2] using hlast
      clear hlast e2
      by_cases hx : x = 48
      · have tx : (((y[q.length]'(by omega)).toNat : Int) == 48) = true := by rw [hl2]; simpa using hx
        replace HZ := Lib.hid (HZ.out hx)
        clear hx HY hl2
        go_wp2
        go_round
        case rel => exact ⟨q, rfl, by omega, Lib.hid ⟨HZ.out, HQ.out⟩⟩
        case measure => simp only [Mom.str_size]; omega
      · have tx : (((y[q.length]'(by omega)).toNat : Int) == 48) = false := by rw [hl2]; simpa using hx
        replace HY := Lib.hid (HY.out hx)
        clear hx HZ hl2
        go_wp2
        go_ret
        rw [← HY.out]
        exact ⟨rfl, hb1⟩

theorem offsetText_any (o : Int) (h0 : -1439 ≤ o) (h1 : o ≤ 1439) (w : World) : Calls Try.prog 35 #[.int .i64 o] w fun e w' => e = .returned (.string (Mom.str (Mom.otx o))) ∧ Below w.heap.size w w' := by
  by_cases hz : o = 0
  · subst hz
    go_enter Try.func35, Try.ntmps35
    go_wp2
    go_ret
    exact ⟨rfl, Below.refl _ _⟩
  have tz : (o == 0) = false := by simpa using hz
  by_cases hn : o < 0
  · have HR : Hid (Mom.str (Mom.otx o) = ⟨#[45]⟩ ++ Mom.str (Mom.dg 2 (-o / 60)) ++ ⟨#[58]⟩ ++ Mom.str (Mom.dg 2 (-o % 60))) := Lib.hid (by unfold Mom.otx; rw [if_neg hz, if_pos hn, lit_str.1, lit_str.2.1]; simp only [Mom.str_append])
    obtain ⟨m, rfl⟩ : ∃ m, o = -m := ⟨-o, by omega⟩
    have hm : 0 < m := by omega
    rw [Int.neg_neg] at HR
    have H1 := Lib.hid (digits_any (m / 60) 2 (by omega) (by omega) (by omega))
    have H2 := Lib.hid (digits_any (m % 60) 2 (by omega) (by omega) (by omega))
    have s1 := dg_size 2 (m / 60)
    have s2 := dg_size 2 (m % 60)
    rw [HR.out]
    clear HR hz
    generalize Mom.str (Mom.dg 2 (m / 60)) = t1 at *
    generalize Mom.str (Mom.dg 2 (m % 60)) = t2 at *
    go_enter Try.func35, Try.ntmps35
    go_wp2_with fail
    refine (H1.out _).mono ?_; rintro e w1 ⟨rfl, hb1⟩
    go_wp2_with fail
    refine (H2.out _).mono ?_; rintro e w2 ⟨rfl, hb2⟩
    replace hb1 := below_then hb1 hb2; clear hb2
    go_wp2_with fail
    go_ret
    exact ⟨rfl, hb1⟩
  · have HR : Hid (Mom.str (Mom.otx o) = ⟨#[43]⟩ ++ Mom.str (Mom.dg 2 (o / 60)) ++ ⟨#[58]⟩ ++ Mom.str (Mom.dg 2 (o % 60))) := Lib.hid (by unfold Mom.otx; rw [if_neg hz, if_neg hn, lit_str.2.2.2.2.2.1, lit_str.2.1]; simp only [Mom.str_append])
    have H1 := Lib.hid (digits_any (o / 60) 2 (by omega) (by omega) (by omega))
    have H2 := Lib.hid (digits_any (o % 60) 2 (by omega) (by omega) (by omega))
    have s1 := dg_size 2 (o / 60)
    have s2 := dg_size 2 (o % 60)
    rw [HR.out]
    clear HR hz
    generalize Mom.str (Mom.dg 2 (o / 60)) = t1 at *
    generalize Mom.str (Mom.dg 2 (o % 60)) = t2 at *
    go_enter Try.func35, Try.ntmps35
    go_wp2_with fail
    refine (H1.out _).mono ?_; rintro e w1 ⟨rfl, hb1⟩
    go_wp2_with fail
    refine (H2.out _).mono ?_; rintro e w2 ⟨rfl, hb2⟩
    replace hb1 := below_then hb1 hb2; clear hb2
    go_wp2_with fail
    go_ret
    exact ⟨rfl, hb1⟩
theorem conv_one (x : Int) (h : 0 ≤ x ∧ x < 256) (w : World) : (convert 84 9 (.slice (some ⟨w.heap.size, 0, none⟩) 1 1)).run Try.prog (w.alloc (.cells #[.int .u8 x] 5)) = .ok (.string (Mom.str [x])) (w.alloc (.cells #[.int .u8 x] 5)) :=
  conv_whole (xs := [x]) (Whole.new w _ _) (by simpa using h)

set_option maxHeartbeats 1000000 in
theorem pad_any (n : Int) (wd : Nat) (h0 : 0 ≤ n) (h1 : n ≤ 4000000000) (hw : wd ≤ 9) (w : World) : Calls Try.prog 37 #[.int .i64 n, .int .i64 wd] w fun e w' => e = .returned (.string (Mom.str (Mom.dg wd n))) ∧ Below w.heap.size w w' := by
  go_enter Try.func37, Try.ntmps37
  go_wp2
  go_loopw [0, 5, 6] (fun m s i wr => ∃ (k : Nat) (q : Int) (T : List Int), k ≤ wd ∧ T.length = k ∧ i = .int .i64 k ∧ m = .int .i64 q ∧ (0 ≤ q ∧ q ≤ n) ∧ Hid (Mom.dg wd n = Mom.dg (wd - k) q ++ T) ∧ s = .string (Mom.str T) ∧ Below w.heap.size w wr) (fun _ _ i _ => wd - (intOf i).toNat)
  case atStart => exact ⟨0, n, [], by omega, rfl, rfl, rfl, by omega, Lib.hid (by simp), rfl, Below.refl _ _⟩
  case round =>
    obtain ⟨k, q, T, hk, hT, rfl, rfl, hq, HD, rfl, hbr⟩ := hrel
    have hs := Mom.str_size T
    by_cases hlt : k < wd
    · have hc := fun w => conv_one (48 + q % 10) (by omega) w
      have s1 := Mom.str_size [48 + q % 10]
      have HA := Lib.hid (Mom.str_append [48 + q % 10] T)
      have HM : Hid (wd - k = (wd - (k + 1)) + 1) := Lib.hid (by omega)
      go_wp2
      go_roundw
      case rel =>
        refine ⟨k + 1, q / 10, (48 + q % 10) :: T, by omega, by simp; omega, by go_num, by go_num, by omega, Lib.hid ?_, congrArg Value.string HA.out, hbr.alloc hbr.size _⟩
        rw [HD.out, HM.out]
        simp [Mom.dg]
      case measure => simp [intOf]; omega
    · obtain rfl : k = wd := by omega
      have HE : Hid (Mom.dg k n = T) := Lib.hid (by rw [HD.out]; simp [Mom.dg])
      go_wp2
      go_ret
      rw [HE.out]
      exact ⟨rfl, hbr⟩

theorem roffset_any (o : Int) (h0 : -1439 ≤ o) (h1 : o ≤ 1439) (w : World) : Calls Try.prog 39 #[.int .i64 o] w fun e w' => e = .returned (.string (Mom.str (Mom.otx o))) ∧ Below w.heap.size w w' := by
  by_cases hz : o = 0
  · subst hz
    go_enter Try.func39, Try.ntmps39
    go_wp2
    go_ret
    exact ⟨rfl, Below.refl _ _⟩
  have tz : (o == 0) = false := by simpa using hz
  by_cases hn : o < 0
  · have HR : Hid (Mom.str (Mom.otx o) = ⟨#[45]⟩ ++ Mom.str (Mom.dg 2 (-o / 60)) ++ ⟨#[58]⟩ ++ Mom.str (Mom.dg 2 (-o % 60))) := Lib.hid (by unfold Mom.otx; rw [if_neg hz, if_pos hn, lit_str.1, lit_str.2.1]; simp only [Mom.str_append])
    obtain ⟨m, rfl⟩ : ∃ m, o = -m := ⟨-o, by omega⟩
    have hm : 0 < m := by omega
    rw [Int.neg_neg] at HR
    have H1 := Lib.hid (pad_any (m / 60) 2 (by omega) (by omega) (by omega))
    have H2 := Lib.hid (pad_any (m % 60) 2 (by omega) (by omega) (by omega))
    have s1 := dg_size 2 (m / 60)
    have s2 := dg_size 2 (m % 60)
    rw [HR.out]
    clear HR hz
    generalize Mom.str (Mom.dg 2 (m / 60)) = t1 at *
    generalize Mom.str (Mom.dg 2 (m % 60)) = t2 at *
    go_enter Try.func39, Try.ntmps39
    go_wp2_with fail
    refine (H1.out _).mono ?_; rintro e w1 ⟨rfl, hb1⟩
    go_wp2_with fail
    refine (H2.out _).mono ?_; rintro e w2 ⟨rfl, hb2⟩
    replace hb1 := below_then hb1 hb2; clear hb2
    go_wp2_with fail
    go_ret
    exact ⟨rfl, hb1⟩
  · have HR : Hid (Mom.str (Mom.otx o) = ⟨#[43]⟩ ++ Mom.str (Mom.dg 2 (o / 60)) ++ ⟨#[58]⟩ ++ Mom.str (Mom.dg 2 (o % 60))) := Lib.hid (by unfold Mom.otx; rw [if_neg hz, if_neg hn, lit_str.2.2.2.2.2.1, lit_str.2.1]; simp only [Mom.str_append])
    have H1 := Lib.hid (pad_any (o / 60) 2 (by omega) (by omega) (by omega))
    have H2 := Lib.hid (pad_any (o % 60) 2 (by omega) (by omega) (by omega))
    have s1 := dg_size 2 (o / 60)
    have s2 := dg_size 2 (o % 60)
    rw [HR.out]
    clear HR hz
    generalize Mom.str (Mom.dg 2 (o / 60)) = t1 at *
    generalize Mom.str (Mom.dg 2 (o % 60)) = t2 at *
    go_enter Try.func39, Try.ntmps39
    go_wp2_with fail
    refine (H1.out _).mono ?_; rintro e w1 ⟨rfl, hb1⟩
    go_wp2_with fail
    refine (H2.out _).mono ?_; rintro e w2 ⟨rfl, hb2⟩
    replace hb1 := below_then hb1 hb2; clear hb2
    go_wp2_with fail
    go_ret
    exact ⟨rfl, hb1⟩
end Go.Proofs.Ythbjkibclbgjoaa
