/- The functions of the seat: what is shown of their plain form holds of them. -/
import Derived.Test.YtodjomdnlcledaaGo4
import Derived.Test.YtodjomdnlcledaaGoS
import Derived.Test.YtodjomdnlcledaaY20
import Derived.KernelRfl
namespace Go.Proofs.Ytodjomdnlcledaa.X
open Go Go.RowKit
set_option linter.unusedVariables false
set_option linter.unusedSimpArgs false
theorem ref08_Few_bk : BookOk ref08_FewB :=
  { fr := fun f sp h => by cases h
    fn := fun f sp h => by cases h
    sp := fun f g h => by cases h
    inl := fun f args s i h => by cases h
    eqv := eqvOk_of (b := ref08_FewB) eqvs_ok }
theorem ref08_Few_ok : FnOk Try.prog 4 ref08_FewS := FnOk.of ref08_Few_bk Try.func4 rfl rfl ref08_Few_body
theorem ref07_Less_bk : BookOk ref07_LessB :=
  { fr := fun f sp h => by cases h
    fn := fun f sp h => by cases h
    sp := fun f g h => by cases h
    inl := fun f args s i h => by cases h
    eqv := eqvOk_of (b := ref07_LessB) eqvs_ok }
theorem ref07_Less_ok : FnOk Try.prog 22 ref07_LessS := FnOk.of ref07_Less_bk Try.func22 rfl rfl ref07_Less_body
theorem stands22 : Stands Try.prog 22 := ⟨Try.f22, bodyOf Try.f22, Try.func22, rfl, by kernel_rfl⟩
theorem ref10_Rising_bk : BookOk ref10_RisingB :=
  { fr := fun f sp h => by cases h
    fn := fun f sp h => by
      dsimp only [ref10_RisingB] at h
      split at h
      · cases h; exact ⟨stands22, ref07_Less_ok⟩
      · cases h
    sp := fun f g h => by cases h
    inl := fun f args s i h => by cases h
    eqv := eqvOk_of (b := ref10_RisingB) eqvs_ok }
theorem ref10_Rising_ok : FnOk Try.prog 12 ref10_RisingS := FnOk.of ref10_Rising_bk Try.func12 rfl rfl ref10_Rising_body
theorem stands12 : Stands Try.prog 12 := ⟨Try.f12, bodyOf Try.f12, Try.func12, rfl, by kernel_rfl⟩
theorem ref10_Check_bk : BookOk ref10_CheckB :=
  { fr := fun f sp h => by cases h
    fn := fun f sp h => by
      dsimp only [ref10_CheckB] at h
      split at h
      · cases h; exact ⟨stands12, ref10_Rising_ok⟩
      · cases h
    sp := fun f g h => by cases h
    inl := fun f args s i h => by cases h
    eqv := eqvOk_of (b := ref10_CheckB) eqvs_ok }
theorem ref10_Check_ok : FnOk Try.prog 5 ref10_CheckS := FnOk.of ref10_Check_bk Try.func5 rfl rfl ref10_Check_body
theorem ref07_Small_bk : BookOk ref07_SmallB :=
  { fr := fun f sp h => by cases h
    fn := fun f sp h => by cases h
    sp := fun f g h => by cases h
    inl := fun f args s i h => by cases h
    eqv := eqvOk_of (b := ref07_SmallB) eqvs_ok }
theorem ref07_Small_ok : FnOk Try.prog 6 ref07_SmallS := FnOk.of ref07_Small_bk Try.func6 rfl rfl ref07_Small_body
theorem ref08_Texts_bk : BookOk ref08_TextsB :=
  { fr := fun f sp h => by cases h
    fn := fun f sp h => by cases h
    sp := fun f g h => by cases h
    inl := fun f args s i h => by cases h
    eqv := eqvOk_of (b := ref08_TextsB) eqvs_ok }
theorem ref08_Texts_ok : FnOk Try.prog 9 ref08_TextsS := FnOk.of ref08_Texts_bk Try.func9 rfl rfl ref08_Texts_body
theorem cmp_Or_int_bk : BookOk cmp_Or_intB :=
  { fr := fun f sp h => by cases h
    fn := fun f sp h => by cases h
    sp := fun f g h => by cases h
    inl := fun f args s i h => by cases h
    eqv := eqvOk_of (b := cmp_Or_intB) eqvs_ok }
theorem cmp_Or_int_ok : FnOk Try.prog 40 cmp_Or_intS := FnOk.of cmp_Or_int_bk Try.func40 rfl rfl cmp_Or_int_body
theorem cmp_isNaN_int_bk : BookOk cmp_isNaN_intB :=
  { fr := fun f sp h => by cases h
    fn := fun f sp h => by cases h
    sp := fun f g h => by cases h
    inl := fun f args s i h => by cases h
    eqv := eqvOk_of (b := cmp_isNaN_intB) eqvs_ok }
theorem cmp_isNaN_int_ok : FnOk Try.prog 56 cmp_isNaN_intS := FnOk.of cmp_isNaN_int_bk Try.func56 rfl rfl cmp_isNaN_int_body
theorem stands56 : Stands Try.prog 56 := ⟨Try.f56, bodyOf Try.f56, Try.func56, rfl, by kernel_rfl⟩
theorem cmp_Compare_int_bk : BookOk cmp_Compare_intB :=
  { fr := fun f sp h => by cases h
    fn := fun f sp h => by
      dsimp only [cmp_Compare_intB] at h
      split at h
      · cases h; exact ⟨stands56, cmp_isNaN_int_ok⟩
      · cases h
    sp := fun f g h => by cases h
    inl := fun f args s i h => by cases h
    eqv := eqvOk_of (b := cmp_Compare_intB) eqvs_ok }
theorem cmp_Compare_int_ok : FnOk Try.prog 41 cmp_Compare_intS := FnOk.of cmp_Compare_int_bk Try.func41 rfl rfl cmp_Compare_int_body
theorem stands40 : Stands Try.prog 40 := ⟨Try.f40, bodyOf Try.f40, Try.func40, rfl, by kernel_rfl⟩
theorem stands41 : Stands Try.prog 41 := ⟨Try.f41, bodyOf Try.f41, Try.func41, rfl, by kernel_rfl⟩
theorem ops_Less_bk : BookOk ops_LessB :=
  { fr := fun f sp h => by cases h
    fn := fun f sp h => by
      dsimp only [ops_LessB] at h
      split at h
      · cases h; exact ⟨stands40, cmp_Or_int_ok⟩
      · cases h; exact ⟨stands41, cmp_Compare_int_ok⟩
      · cases h
    sp := fun f g h => by cases h
    inl := fun f args s i h => by cases h
    eqv := eqvOk_of (b := ops_LessB) eqvs_ok }
theorem ops_Less_ok : FnOk Try.prog 33 ops_LessS := FnOk.of ops_Less_bk Try.func33 rfl rfl ops_Less_body
theorem stands33 : Stands Try.prog 33 := ⟨Try.f33, bodyOf Try.f33, Try.func33, rfl, by kernel_rfl⟩
theorem orset_rising_bk : BookOk orset_risingB :=
  { fr := fun f sp h => by cases h
    fn := fun f sp h => by
      dsimp only [orset_risingB] at h
      split at h
      · cases h; exact ⟨stands33, ops_Less_ok⟩
      · cases h
    sp := fun f g h => by cases h
    inl := fun f args s i h => by cases h
    eqv := eqvOk_of (b := orset_risingB) eqvs_ok }
theorem orset_rising_ok : FnOk Try.prog 28 orset_risingS := FnOk.of orset_rising_bk Try.func28 rfl rfl orset_rising_body
theorem stands28 : Stands Try.prog 28 := ⟨Try.f28, bodyOf Try.f28, Try.func28, rfl, by kernel_rfl⟩
theorem orset_Check_bk : BookOk orset_CheckB :=
  { fr := fun f sp h => by cases h
    fn := fun f sp h => by
      dsimp only [orset_CheckB] at h
      split at h
      · cases h; exact ⟨stands28, orset_rising_ok⟩
      · cases h
    sp := fun f g h => by cases h
    inl := fun f args s i h => by cases h
    eqv := eqvOk_of (b := orset_CheckB) eqvs_ok }
theorem orset_Check_ok : FnOk Try.prog 16 orset_CheckS := FnOk.of orset_Check_bk Try.func16 rfl rfl orset_Check_body
theorem stands16 : Stands Try.prog 16 := ⟨Try.f16, bodyOf Try.f16, Try.func16, rfl, by kernel_rfl⟩
theorem orset_Read_bk : BookOk orset_ReadB :=
  { fr := fun f sp h => by cases h
    fn := fun f sp h => by
      dsimp only [orset_ReadB] at h
      split at h
      · cases h; exact ⟨stands16, orset_Check_ok⟩
      · cases h
    sp := fun f g h => by cases h
    inl := fun f args s i h => by cases h
    eqv := eqvOk_of (b := orset_ReadB) eqvs_ok }
theorem orset_Read_ok : FnOk Try.prog 10 orset_ReadS := FnOk.of orset_Read_bk Try.func10 rfl rfl orset_Read_body
theorem orset_may_bk : BookOk orset_mayB :=
  { fr := fun f sp h => by cases h
    fn := fun f sp h => by
      dsimp only [orset_mayB] at h
      split at h
      · cases h; exact ⟨stands16, orset_Check_ok⟩
      · cases h
    sp := fun f g h => by cases h
    inl := fun f args s i h => by cases h
    eqv := eqvOk_of (b := orset_mayB) eqvs_ok }
theorem orset_may_ok : FnOk Try.prog 18 orset_mayS := FnOk.of orset_may_bk Try.func18 rfl rfl orset_may_body
theorem orset_opened_bk : BookOk orset_openedB :=
  { fr := fun f sp h => by cases h
    fn := fun f sp h => by cases h
    sp := fun f g h => by cases h
    inl := fun f args s i h => by cases h
    eqv := eqvOk_of (b := orset_openedB) eqvs_ok }
theorem orset_opened_ok : FreshOk Try.prog 19 orset_openedS := FreshOk.of orset_opened_bk rfl Try.func19 rfl rfl orset_opened_body
theorem vec_peer_bk : BookOk vec_peerB :=
  { fr := fun f sp h => by cases h
    fn := fun f sp h => by cases h
    sp := fun f g h => by cases h
    inl := fun f args s i h => by cases h
    eqv := eqvOk_of (b := vec_peerB) eqvs_ok }
theorem vec_peer_ok : FnOk Try.prog 37 vec_peerS := FnOk.of vec_peer_bk Try.func37 rfl rfl vec_peer_body
theorem stands37 : Stands Try.prog 37 := ⟨Try.f37, bodyOf Try.f37, Try.func37, rfl, by kernel_rfl⟩
theorem vec_Has_bk : BookOk vec_HasB :=
  { fr := fun f sp h => by cases h
    fn := fun f sp h => by
      dsimp only [vec_HasB] at h
      split at h
      · cases h; exact ⟨stands37, vec_peer_ok⟩
      · cases h
    sp := fun f g h => by cases h
    inl := fun f args s i h => by cases h
    eqv := eqvOk_of (b := vec_HasB) eqvs_ok }
theorem vec_Has_ok : FnOk Try.prog 27 vec_HasS := FnOk.of vec_Has_bk Try.func27 rfl rfl vec_Has_body
theorem stands27 : Stands Try.prog 27 := ⟨Try.f27, bodyOf Try.f27, Try.func27, rfl, by kernel_rfl⟩
theorem ops_Before_bk : BookOk ops_BeforeB :=
  { fr := fun f sp h => by cases h
    fn := fun f sp h => by
      dsimp only [ops_BeforeB] at h
      split at h
      · cases h; exact ⟨stands27, vec_Has_ok⟩
      · cases h
    sp := fun f g h => by cases h
    inl := fun f args s i h => by cases h
    eqv := eqvOk_of (b := ops_BeforeB) eqvs_ok }
theorem ops_Before_ok : FnOk Try.prog 31 ops_BeforeS := FnOk.of ops_Before_bk Try.func31 rfl rfl ops_Before_body
theorem slices_Clone_api_Mark_api_Mark_bk : BookOk slices_Clone_api_Mark_api_MarkB :=
  { fr := fun f sp h => by cases h
    fn := fun f sp h => by cases h
    sp := fun f g h => by cases h
    inl := fun f args s i h => by cases h
    eqv := eqvOk_of (b := slices_Clone_api_Mark_api_MarkB) eqvs_ok }
theorem slices_Clone_api_Mark_api_Mark_ok : FreshOk Try.prog 35 slices_Clone_api_Mark_api_MarkS := FreshOk.of slices_Clone_api_Mark_api_Mark_bk rfl Try.func35 rfl rfl slices_Clone_api_Mark_api_Mark_body
theorem stands18 : Stands Try.prog 18 := ⟨Try.f18, bodyOf Try.f18, Try.func18, rfl, by kernel_rfl⟩
theorem stands31 : Stands Try.prog 31 := ⟨Try.f31, bodyOf Try.f31, Try.func31, rfl, by kernel_rfl⟩
theorem stands19 : Stands Try.prog 19 := ⟨Try.f19, bodyOf Try.f19, Try.func19, rfl, by kernel_rfl⟩
theorem stands35 : Stands Try.prog 35 := ⟨Try.f35, bodyOf Try.f35, Try.func35, rfl, by kernel_rfl⟩
theorem stands32 : Stands Try.prog 32 := ⟨Try.f32, bodyOf Try.f32, Try.func32, rfl, by kernel_rfl⟩
theorem orset_Del_bk : BookOk orset_DelB :=
  { fr := fun f sp h => by
      dsimp only [orset_DelB] at h
      split at h
      · cases h; exact ⟨stands19, orset_opened_ok⟩
      · cases h; exact ⟨stands35, slices_Clone_api_Mark_api_Mark_ok⟩
      · cases h
    fn := fun f sp h => by
      dsimp only [orset_DelB] at h
      split at h
      · cases h; exact ⟨stands18, orset_may_ok⟩
      · cases h; exact ⟨stands31, ops_Before_ok⟩
      · cases h
    sp := fun f g h => by
      dsimp only [orset_DelB] at h
      split at h
      · cases h; exact ⟨stands32, special32⟩
      · cases h
    inl := fun f args s i h => by
      dsimp only [orset_DelB] at h
      split at h
      · cases h; exact ⟨Try.f30, Try.func30, rfl, rfl, rfl, by kernel_rfl⟩
      · cases h; exact ⟨Try.f44, Try.func44, rfl, rfl, rfl, by kernel_rfl⟩
      · cases h; exact ⟨Try.f30, Try.func30, rfl, rfl, rfl, by kernel_rfl⟩
      · cases h; exact ⟨Try.f36, Try.func36, rfl, rfl, rfl, by kernel_rfl⟩
      · cases h; exact ⟨Try.f25, Try.func25, rfl, rfl, rfl, by kernel_rfl⟩
      · cases h; exact ⟨Try.f20, Try.func20, rfl, rfl, rfl, by kernel_rfl⟩
      · cases h; exact ⟨Try.f21, Try.func21, rfl, rfl, rfl, by kernel_rfl⟩
      · cases h
    eqv := eqvOk_of (b := orset_DelB) eqvs_ok }
theorem orset_Del_ok : FnOk Try.prog 11 orset_DelS := FnOk.of orset_Del_bk Try.func11 rfl rfl orset_Del_body
theorem orset_with_bk : BookOk orset_withB :=
  { fr := fun f sp h => by
      dsimp only [orset_withB] at h
      split at h
      · cases h; exact ⟨stands35, slices_Clone_api_Mark_api_Mark_ok⟩
      · cases h
    fn := fun f sp h => by
      dsimp only [orset_withB] at h
      split at h
      · cases h; exact ⟨stands33, ops_Less_ok⟩
      · cases h
    sp := fun f g h => by cases h
    inl := fun f args s i h => by
      dsimp only [orset_withB] at h
      split at h
      · cases h; exact ⟨Try.f34, Try.func34, rfl, rfl, rfl, by kernel_rfl⟩
      · cases h; exact ⟨Try.f34, Try.func34, rfl, rfl, rfl, by kernel_rfl⟩
      · cases h
    eqv := eqvOk_of (b := orset_withB) eqvs_ok }
theorem orset_with_ok : FnOk Try.prog 23 orset_withS := FnOk.of orset_with_bk Try.func23 rfl rfl orset_with_body
theorem stands23 : Stands Try.prog 23 := ⟨Try.f23, bodyOf Try.f23, Try.func23, rfl, by kernel_rfl⟩
theorem orset_Add_bk : BookOk orset_AddB :=
  { fr := fun f sp h => by
      dsimp only [orset_AddB] at h
      split at h
      · cases h; exact ⟨stands19, orset_opened_ok⟩
      · cases h
    fn := fun f sp h => by
      dsimp only [orset_AddB] at h
      split at h
      · cases h; exact ⟨stands18, orset_may_ok⟩
      · cases h; exact ⟨stands23, orset_with_ok⟩
      · cases h
    sp := fun f g h => by
      dsimp only [orset_AddB] at h
      split at h
      · cases h; exact ⟨stands32, special32⟩
      · cases h
    inl := fun f args s i h => by
      dsimp only [orset_AddB] at h
      split at h
      · cases h; exact ⟨Try.f21, Try.func21, rfl, rfl, rfl, by kernel_rfl⟩
      · cases h
    eqv := eqvOk_of (b := orset_AddB) eqvs_ok }
theorem orset_Add_ok : FnOk Try.prog 13 orset_AddS := FnOk.of orset_Add_bk Try.func13 rfl rfl orset_Add_body
theorem slices_Clone_api_Member_api_Member_bk : BookOk slices_Clone_api_Member_api_MemberB :=
  { fr := fun f sp h => by cases h
    fn := fun f sp h => by cases h
    sp := fun f g h => by cases h
    inl := fun f args s i h => by cases h
    eqv := eqvOk_of (b := slices_Clone_api_Member_api_MemberB) eqvs_ok }
theorem slices_Clone_api_Member_api_Member_ok : FreshOk Try.prog 24 slices_Clone_api_Member_api_MemberS := FreshOk.of slices_Clone_api_Member_api_Member_bk rfl Try.func24 rfl rfl slices_Clone_api_Member_api_Member_body
theorem stands24 : Stands Try.prog 24 := ⟨Try.f24, bodyOf Try.f24, Try.func24, rfl, by kernel_rfl⟩
theorem orset_Fold_bk : BookOk orset_FoldB :=
  { fr := fun f sp h => by
      dsimp only [orset_FoldB] at h
      split at h
      · cases h; exact ⟨stands24, slices_Clone_api_Member_api_Member_ok⟩
      · cases h; exact ⟨stands35, slices_Clone_api_Mark_api_Mark_ok⟩
      · cases h
    fn := fun f sp h => by
      dsimp only [orset_FoldB] at h
      split at h
      · cases h; exact ⟨stands16, orset_Check_ok⟩
      · cases h; exact ⟨stands27, vec_Has_ok⟩
      · cases h
    sp := fun f g h => by cases h
    inl := fun f args s i h => by
      dsimp only [orset_FoldB] at h
      split at h
      · cases h; exact ⟨Try.f26, Try.func26, rfl, rfl, rfl, by kernel_rfl⟩
      · cases h; exact ⟨Try.f44, Try.func44, rfl, rfl, rfl, by kernel_rfl⟩
      · cases h; exact ⟨Try.f26, Try.func26, rfl, rfl, rfl, by kernel_rfl⟩
      · cases h; exact ⟨Try.f36, Try.func36, rfl, rfl, rfl, by kernel_rfl⟩
      · cases h; exact ⟨Try.f25, Try.func25, rfl, rfl, rfl, by kernel_rfl⟩
      · cases h
    eqv := eqvOk_of (b := orset_FoldB) eqvs_ok }
theorem orset_Fold_ok : FnOk Try.prog 14 orset_FoldS := FnOk.of orset_Fold_bk Try.func14 rfl rfl orset_Fold_body
theorem orset_Clear_bk : BookOk orset_ClearB :=
  { fr := fun f sp h => by
      dsimp only [orset_ClearB] at h
      split at h
      · cases h; exact ⟨stands19, orset_opened_ok⟩
      · cases h; exact ⟨stands35, slices_Clone_api_Mark_api_Mark_ok⟩
      · cases h
    fn := fun f sp h => by
      dsimp only [orset_ClearB] at h
      split at h
      · cases h; exact ⟨stands18, orset_may_ok⟩
      · cases h; exact ⟨stands31, ops_Before_ok⟩
      · cases h
    sp := fun f g h => by
      dsimp only [orset_ClearB] at h
      split at h
      · cases h; exact ⟨stands32, special32⟩
      · cases h
    inl := fun f args s i h => by
      dsimp only [orset_ClearB] at h
      split at h
      · cases h; exact ⟨Try.f30, Try.func30, rfl, rfl, rfl, by kernel_rfl⟩
      · cases h; exact ⟨Try.f44, Try.func44, rfl, rfl, rfl, by kernel_rfl⟩
      · cases h; exact ⟨Try.f30, Try.func30, rfl, rfl, rfl, by kernel_rfl⟩
      · cases h; exact ⟨Try.f36, Try.func36, rfl, rfl, rfl, by kernel_rfl⟩
      · cases h; exact ⟨Try.f25, Try.func25, rfl, rfl, rfl, by kernel_rfl⟩
      · cases h; exact ⟨Try.f20, Try.func20, rfl, rfl, rfl, by kernel_rfl⟩
      · cases h; exact ⟨Try.f21, Try.func21, rfl, rfl, rfl, by kernel_rfl⟩
      · cases h
    eqv := eqvOk_of (b := orset_ClearB) eqvs_ok }
theorem orset_Clear_ok : FnOk Try.prog 15 orset_ClearS := FnOk.of orset_Clear_bk Try.func15 rfl rfl orset_Clear_body
theorem stands9 : Stands Try.prog 9 := ⟨Try.f9, bodyOf Try.f9, Try.func9, rfl, by kernel_rfl⟩
theorem stands10 : Stands Try.prog 10 := ⟨Try.f10, bodyOf Try.f10, Try.func10, rfl, by kernel_rfl⟩
theorem stands11 : Stands Try.prog 11 := ⟨Try.f11, bodyOf Try.f11, Try.func11, rfl, by kernel_rfl⟩
theorem stands13 : Stands Try.prog 13 := ⟨Try.f13, bodyOf Try.f13, Try.func13, rfl, by kernel_rfl⟩
theorem stands14 : Stands Try.prog 14 := ⟨Try.f14, bodyOf Try.f14, Try.func14, rfl, by kernel_rfl⟩
theorem stands15 : Stands Try.prog 15 := ⟨Try.f15, bodyOf Try.f15, Try.func15, rfl, by kernel_rfl⟩
theorem law10_heads_bk : BookOk law10_headsB :=
  { fr := fun f sp h => by cases h
    fn := fun f sp h => by
      dsimp only [law10_headsB] at h
      split at h
      · cases h; exact ⟨stands9, ref08_Texts_ok⟩
      · cases h; exact ⟨stands10, orset_Read_ok⟩
      · cases h; exact ⟨stands11, orset_Del_ok⟩
      · cases h; exact ⟨stands13, orset_Add_ok⟩
      · cases h; exact ⟨stands14, orset_Fold_ok⟩
      · cases h; exact ⟨stands15, orset_Clear_ok⟩
      · cases h; exact ⟨stands16, orset_Check_ok⟩
      · cases h
    sp := fun f g h => by cases h
    inl := fun f args s i h => by cases h
    eqv := eqvOk_of (b := law10_headsB) eqvs_ok }
theorem law10_heads_ok : FnOk Try.prog 7 law10_headsS := FnOk.of law10_heads_bk Try.func7 rfl rfl law10_heads_body
theorem ref03_Peer_bk : BookOk ref03_PeerB :=
  { fr := fun f sp h => by cases h
    fn := fun f sp h => by cases h
    sp := fun f g h => by cases h
    inl := fun f args s i h => by cases h
    eqv := eqvOk_of (b := ref03_PeerB) eqvs_ok }
theorem ref03_Peer_ok : FnOk Try.prog 29 ref03_PeerS := FnOk.of ref03_Peer_bk Try.func29 rfl rfl ref03_Peer_body
theorem stands29 : Stands Try.prog 29 := ⟨Try.f29, bodyOf Try.f29, Try.func29, rfl, by kernel_rfl⟩
theorem ref03_Has_bk : BookOk ref03_HasB :=
  { fr := fun f sp h => by cases h
    fn := fun f sp h => by
      dsimp only [ref03_HasB] at h
      split at h
      · cases h; exact ⟨stands29, ref03_Peer_ok⟩
      · cases h
    sp := fun f g h => by cases h
    inl := fun f args s i h => by cases h
    eqv := eqvOk_of (b := ref03_HasB) eqvs_ok }
theorem ref03_Has_ok : FnOk Try.prog 17 ref03_HasS := FnOk.of ref03_Has_bk Try.func17 rfl rfl ref03_Has_body
theorem stands17 : Stands Try.prog 17 := ⟨Try.f17, bodyOf Try.f17, Try.func17, rfl, by kernel_rfl⟩
theorem ref07_Before_bk : BookOk ref07_BeforeB :=
  { fr := fun f sp h => by cases h
    fn := fun f sp h => by
      dsimp only [ref07_BeforeB] at h
      split at h
      · cases h; exact ⟨stands17, ref03_Has_ok⟩
      · cases h
    sp := fun f g h => by cases h
    inl := fun f args s i h => by cases h
    eqv := eqvOk_of (b := ref07_BeforeB) eqvs_ok }
theorem ref07_Before_ok : FnOk Try.prog 8 ref07_BeforeS := FnOk.of ref07_Before_bk Try.func8 rfl rfl ref07_Before_body
theorem stands4 : Stands Try.prog 4 := ⟨Try.f4, bodyOf Try.f4, Try.func4, rfl, by kernel_rfl⟩
theorem stands5 : Stands Try.prog 5 := ⟨Try.f5, bodyOf Try.f5, Try.func5, rfl, by kernel_rfl⟩
theorem stands6 : Stands Try.prog 6 := ⟨Try.f6, bodyOf Try.f6, Try.func6, rfl, by kernel_rfl⟩
theorem stands7 : Stands Try.prog 7 := ⟨Try.f7, bodyOf Try.f7, Try.func7, rfl, by kernel_rfl⟩
theorem stands8 : Stands Try.prog 8 := ⟨Try.f8, bodyOf Try.f8, Try.func8, rfl, by kernel_rfl⟩
theorem law10_OrsetGoes_bk : BookOk law10_OrsetGoesB :=
  { fr := fun f sp h => by cases h
    fn := fun f sp h => by
      dsimp only [law10_OrsetGoesB] at h
      split at h
      · cases h; exact ⟨stands4, ref08_Few_ok⟩
      · cases h; exact ⟨stands5, ref10_Check_ok⟩
      · cases h; exact ⟨stands6, ref07_Small_ok⟩
      · cases h; exact ⟨stands7, law10_heads_ok⟩
      · cases h; exact ⟨stands8, ref07_Before_ok⟩
      · cases h; exact ⟨stands9, ref08_Texts_ok⟩
      · cases h; exact ⟨stands10, orset_Read_ok⟩
      · cases h; exact ⟨stands11, orset_Del_ok⟩
      · cases h
    sp := fun f g h => by cases h
    inl := fun f args s i h => by cases h
    eqv := eqvOk_of (b := law10_OrsetGoesB) eqvs_ok }
theorem law10_OrsetGoes_ok : FnOk Try.prog 3 law10_OrsetGoesS := FnOk.of law10_OrsetGoes_bk Try.func3 rfl rfl law10_OrsetGoes_body
end Go.Proofs.Ytodjomdnlcledaa.X
