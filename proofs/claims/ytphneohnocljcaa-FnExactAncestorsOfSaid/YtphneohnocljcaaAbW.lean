/- Where the results of the functions lie. Printed by results.py. -/
import Derived.Test.YtphneohnocljcaaAbT
namespace Go.Proofs.Ytphneohnocljcaa
open Go Go.Ab
@[go_sem] theorem res0 : Try.f0.results.toList = [] := rfl
@[go_sem] theorem res1 : Try.f1.results.toList = [] := rfl
@[go_sem] theorem res2 : Try.f2.results.toList = [] := rfl
@[go_sem] theorem res3 : Try.f3.results.toList = [.tmp 2] := rfl
@[go_sem] theorem res4 : Try.f4.results.toList = [.tmp 2] := rfl
@[go_sem] theorem res5 : Try.f5.results.toList = [.tmp 4] := rfl
@[go_sem] theorem res6 : Try.f6.results.toList = [.tmp 2] := rfl
@[go_sem] theorem res7 : Try.f7.results.toList = [.tmp 4] := rfl
@[go_sem] theorem res8 : Try.f8.results.toList = [.tmp 2] := rfl
@[go_sem] theorem res9 : Try.f9.results.toList = [.tmp 4] := rfl
@[go_sem] theorem res10 : Try.f10.results.toList = [.tmp 4] := rfl
@[go_sem] theorem res11 : Try.f11.results.toList = [.tmp 4] := rfl
@[go_sem] theorem res12 : Try.f12.results.toList = [.tmp 2] := rfl
@[go_sem] theorem res13 : Try.f13.results.toList = [.cell 2 30] := rfl
@[go_sem] theorem res14 : Try.f14.results.toList = [.tmp 2] := rfl
@[go_sem] theorem res15 : Try.f15.results.toList = [.tmp 4] := rfl
@[go_sem] theorem res16 : Try.f16.results.toList = [.tmp 4] := rfl
@[go_sem] theorem res17 : Try.f17.results.toList = [.tmp 4] := rfl
@[go_sem] theorem res18 : Try.f18.results.toList = [.tmp 4] := rfl
@[go_sem] theorem res19 : Try.f19.results.toList = [.tmp 4] := rfl
@[go_sem] theorem res20 : Try.f20.results.toList = [.tmp 4] := rfl
@[go_sem] theorem res21 : Try.f21.results.toList = [.tmp 2] := rfl
@[go_sem] theorem res22 : Try.f22.results.toList = [.cell 2 44] := rfl
@[go_sem] theorem res23 : Try.f23.results.toList = [.tmp 2] := rfl
@[go_sem] theorem res24 : Try.f24.results.toList = [.tmp 4] := rfl
@[go_sem] theorem res25 : Try.f25.results.toList = [.tmp 4] := rfl
@[go_sem] theorem res26 : Try.f26.results.toList = [.tmp 4] := rfl
@[go_sem] theorem res27 : Try.f27.results.toList = [.tmp 4] := rfl
@[go_sem] theorem res28 : Try.f28.results.toList = [.tmp 4] := rfl
@[go_sem] theorem res29 : Try.f29.results.toList = [.tmp 2] := rfl
@[go_sem] theorem res30 : Try.f30.results.toList = [.cell 2 56] := rfl
@[go_sem] theorem res31 : Try.f31.results.toList = [.tmp 2] := rfl
@[go_sem] theorem res32 : Try.f32.results.toList = [.tmp 4] := rfl
@[go_sem] theorem res33 : Try.f33.results.toList = [.tmp 4] := rfl
@[go_sem] theorem res34 : Try.f34.results.toList = [.tmp 4] := rfl
@[go_sem] theorem res35 : Try.f35.results.toList = [.tmp 4] := rfl
@[go_sem] theorem res36 : Try.f36.results.toList = [.cell 2 67] := rfl
@[go_sem] theorem res37 : Try.f37.results.toList = [.tmp 4] := rfl
@[go_sem] theorem res38 : Try.f38.results.toList = [.tmp 4] := rfl
@[go_sem] theorem res39 : Try.f39.results.toList = [.tmp 4] := rfl
@[go_sem] theorem res40 : Try.f40.results.toList = [.tmp 2] := rfl
@[go_sem] theorem res41 : Try.f41.results.toList = [.tmp 2] := rfl
@[go_sem] theorem res42 : Try.f42.results.toList = [.tmp 4] := rfl
@[go_sem] theorem res43 : Try.f43.results.toList = [.tmp 4] := rfl
@[go_sem] theorem res44 : Try.f44.results.toList = [.tmp 4] := rfl
@[go_sem] theorem res45 : Try.f45.results.toList = [.tmp 4] := rfl
@[go_sem] theorem res46 : Try.f46.results.toList = [.tmp 4] := rfl
@[go_sem] theorem res47 : Try.f47.results.toList = [.cell 2 82] := rfl
@[go_sem] theorem res48 : Try.f48.results.toList = [.tmp 4] := rfl
@[go_sem] theorem res49 : Try.f49.results.toList = [.tmp 4] := rfl
@[go_sem] theorem res50 : Try.f50.results.toList = [.tmp 4] := rfl
@[go_sem] theorem res51 : Try.f51.results.toList = [.tmp 4] := rfl
@[go_sem] theorem res52 : Try.f52.results.toList = [.tmp 4] := rfl
@[go_sem] theorem res53 : Try.f53.results.toList = [.tmp 4] := rfl
@[go_sem] theorem res54 : Try.f54.results.toList = [.tmp 4] := rfl
@[go_sem] theorem res55 : Try.f55.results.toList = [.tmp 2] := rfl
@[go_sem] theorem res56 : Try.f56.results.toList = [.tmp 4] := rfl
@[go_sem] theorem res57 : Try.f57.results.toList = [.tmp 4] := rfl
@[go_sem] theorem res58 : Try.f58.results.toList = [.tmp 4] := rfl
@[go_sem] theorem res59 : Try.f59.results.toList = [.tmp 2] := rfl
@[go_sem] theorem res60 : Try.f60.results.toList = [.tmp 4] := rfl
@[go_sem] theorem res61 : Try.f61.results.toList = [.tmp 4] := rfl
@[go_sem] theorem res62 : Try.f62.results.toList = [.tmp 2] := rfl
@[go_sem] theorem res63 : Try.f63.results.toList = [.tmp 4] := rfl
@[go_sem] theorem res64 : Try.f64.results.toList = [.tmp 4] := rfl
@[go_sem] theorem res65 : Try.f65.results.toList = [.tmp 4] := rfl
@[go_sem] theorem res66 : Try.f66.results.toList = [.tmp 4] := rfl
@[go_sem] theorem res67 : Try.f67.results.toList = [.tmp 4] := rfl
@[go_sem] theorem res68 : Try.f68.results.toList = [.tmp 4] := rfl
@[go_sem] theorem res69 : Try.f69.results.toList = [.tmp 2] := rfl
@[go_sem] theorem res70 : Try.f70.results.toList = [.tmp 2] := rfl
@[go_sem] theorem res71 : Try.f71.results.toList = [.tmp 4] := rfl
@[go_sem] theorem res72 : Try.f72.results.toList = [.tmp 4] := rfl
@[go_sem] theorem res73 : Try.f73.results.toList = [.tmp 4] := rfl
@[go_sem] theorem res74 : Try.f74.results.toList = [.tmp 2] := rfl
@[go_sem] theorem res75 : Try.f75.results.toList = [.tmp 2] := rfl
@[go_sem] theorem res76 : Try.f76.results.toList = [.tmp 4] := rfl
@[go_sem] theorem res77 : Try.f77.results.toList = [.tmp 4] := rfl
@[go_sem] theorem res78 : Try.f78.results.toList = [.tmp 2] := rfl
@[go_sem] theorem res79 : Try.f79.results.toList = [.tmp 2] := rfl
@[go_sem] theorem res80 : Try.f80.results.toList = [.tmp 4] := rfl
@[go_sem] theorem res81 : Try.f81.results.toList = [.tmp 6] := rfl
@[go_sem] theorem res82 : Try.f82.results.toList = [.tmp 2] := rfl
@[go_sem] theorem res83 : Try.f83.results.toList = [.tmp 4] := rfl
@[go_sem] theorem res84 : Try.f84.results.toList = [.tmp 4] := rfl
@[go_sem] theorem res85 : Try.f85.results.toList = [.tmp 4] := rfl
@[go_sem] theorem res86 : Try.f86.results.toList = [.tmp 4] := rfl
@[go_sem] theorem res87 : Try.f87.results.toList = [.tmp 4] := rfl
@[go_sem] theorem res88 : Try.f88.results.toList = [] := rfl
@[go_sem] theorem res89 : Try.f89.results.toList = [] := rfl
@[go_sem] theorem res90 : Try.f90.results.toList = [.tmp 4] := rfl
@[go_sem] theorem res91 : Try.f91.results.toList = [.tmp 2] := rfl
@[go_sem] theorem res92 : Try.f92.results.toList = [.tmp 4] := rfl
@[go_sem] theorem res93 : Try.f93.results.toList = [] := rfl
@[go_sem] theorem res94 : Try.f94.results.toList = [.tmp 2] := rfl
@[go_sem] theorem res95 : Try.f95.results.toList = [.tmp 4] := rfl
@[go_sem] theorem res96 : Try.f96.results.toList = [.tmp 2] := rfl
@[go_sem] theorem res97 : Try.f97.results.toList = [.tmp 3] := rfl
@[go_sem] theorem res98 : Try.f98.results.toList = [.tmp 4] := rfl
@[go_sem] theorem res99 : Try.f99.results.toList = [.cell 2 114] := rfl
@[go_sem] theorem res100 : Try.f100.results.toList = [.tmp 6] := rfl
@[go_sem] theorem res101 : Try.f101.results.toList = [.tmp 4] := rfl
@[go_sem] theorem res102 : Try.f102.results.toList = [.tmp 4] := rfl
@[go_sem] theorem res103 : Try.f103.results.toList = [.tmp 4] := rfl
@[go_sem] theorem res104 : Try.f104.results.toList = [.tmp 4] := rfl
@[go_sem] theorem res105 : Try.f105.results.toList = [.tmp 3] := rfl
@[go_sem] theorem res106 : Try.f106.results.toList = [.tmp 4] := rfl
@[go_sem] theorem res107 : Try.f107.results.toList = [.tmp 4] := rfl
@[go_sem] theorem res108 : Try.f108.results.toList = [.tmp 4] := rfl
@[go_sem] theorem res109 : Try.f109.results.toList = [.tmp 2] := rfl
@[go_sem] theorem res110 : Try.f110.results.toList = [.tmp 4] := rfl
@[go_sem] theorem res111 : Try.f111.results.toList = [.tmp 4] := rfl
@[go_sem] theorem res112 : Try.f112.results.toList = [.cell 2 141] := rfl
@[go_sem] theorem res113 : Try.f113.results.toList = [.tmp 4] := rfl
@[go_sem] theorem res114 : Try.f114.results.toList = [] := rfl
@[go_sem] theorem res115 : Try.f115.results.toList = [] := rfl
@[go_sem] theorem res116 : Try.f116.results.toList = [] := rfl
@[go_sem] theorem res117 : Try.f117.results.toList = [] := rfl
@[go_sem] theorem res118 : Try.f118.results.toList = [] := rfl
@[go_sem] theorem res119 : Try.f119.results.toList = [] := rfl
@[go_sem] theorem res120 : Try.f120.results.toList = [] := rfl
@[go_sem] theorem res121 : Try.f121.results.toList = [] := rfl
@[go_sem] theorem res122 : Try.f122.results.toList = [] := rfl
@[go_sem] theorem res123 : Try.f123.results.toList = [] := rfl
@[go_sem] theorem res124 : Try.f124.results.toList = [] := rfl
@[go_sem] theorem res125 : Try.f125.results.toList = [] := rfl
@[go_sem] theorem res126 : Try.f126.results.toList = [] := rfl
@[go_sem] theorem res127 : Try.f127.results.toList = [] := rfl
@[go_sem] theorem res128 : Try.f128.results.toList = [] := rfl
@[go_sem] theorem res129 : Try.f129.results.toList = [] := rfl
-- nt 0:0 1:0 2:1 3:69 4:69 5:77 6:69 7:74 8:69 9:74 10:34 11:19 12:6 13:15 14:5 15:26 16:21 17:10 18:20 19:22 20:12 21:32 22:9 23:25 24:11 25:10 26:32 27:26 28:38 29:36 30:23 31:28 32:33 33:18 34:42 35:38 36:32 37:36 38:46 39:30 40:26 41:24 42:26 43:19 44:21 45:12 46:41 47:9 48:36 49:11 50:10 51:13 52:12 53:27 54:36 55:23 56:10 57:27 58:35 59:20 60:27 61:19 62:23 63:9 64:27 65:68 66:27 67:28 68:34 69:22 70:36 71:10 72:12 73:27 74:22 75:23 76:27 77:19 78:20 79:8 80:27 81:15 82:23 83:11 84:27 85:96 86:51 87:35 88:20 89:20 90:19 91:4 92:27 93:15 94:6 95:9 96:5 97:8 98:44 99:36 100:15 101:54 102:46 103:50 104:42 105:8 106:36 107:19 108:27 109:23 110:27 111:19 112:12 113:16 114:1 115:1 116:1 117:1 118:1 119:1 120:1 121:1 122:1 123:1 124:1 125:1 126:1 127:1 128:1 129:1
end Go.Proofs.Ytphneohnocljcaa
